/-
  WALKS, CHAPTER 2: the reference's binomial products (printed by gen/genbp.py).
-/
import Derived.Test.YtbkbcpcdnclffaaWlkG2
import Derived.Test.YtbkbcpcdnclffaaPlR
namespace Go.Proofs.Ytbkbcpcdnclffaa
open Go.RowKit
set_option linter.unusedVariables false
namespace WB
open K Pl WA WL
set_option maxHeartbeats 3200000 in
theorem sBinomialProduct_any (B : Nat) (v : Value) (xss : List (List Int)) (w : World) (h : IsR w B v xss) (hB : B ≤ w.heap.size) :
    Calls Try.prog 8 #[v] w (Li2 (bnP xss) w) := by
  have h0 := h
  obtain ⟨us, hU⟩ := h
  obtain ⟨A, c, rfl, hnc, hcm, hrd⟩ := hU.sh
  have He := Lib.hid hU.each
  obtain ⟨n, Hn⟩ : ∃ n, Hid (xss.length = n) := ⟨_, Lib.hid rfl⟩
  rw [Hn.out] at hnc hrd
  rw [Hn.out]
  unfold maxLen at hcm
  clear hU
  have Hh := Lib.hid (show IsR w B (.slice A n c) xss from by rw [Hn.out] at h0; exact h0)
  clear h0
  obtain ⟨cc, Hcc⟩ : ∃ cc, Hid (codB xss = cc) := ⟨_, Lib.hid rfl⟩
  by_cases hz : cc = 0
  · subst hz
    have Hok := Lib.hid (codB_zero Hcc.out).2
    obtain ⟨TOT, HT⟩ : ∃ TOT, Hid (bnP xss = TOT) := ⟨_, Lib.hid rfl⟩
    have Hst := Lib.hid (show mulSt xss 0 [1] = TOT by rw [← HT.out, bnP_run Hcc.out])
    go_enter Try.func8, Try.ntmps8
    go_wp2_with fail
    refine (l02Binomials_any B _ xss _ Hh.out hB).mono ?_
    rintro e w1 ⟨rfl, hb1⟩
    rw [Hcc.out]
    have hs1 := hb1.size
    have hown1 := Lib.hid (show Ow (w1.alloc (.cells #[.int .i64 1] 2)) w.heap.size (w1.alloc (.cells #[.int .i64 1] 2)).heap.size (.slice (some ⟨w1.heap.size, 0, none⟩) 1 1) [1] from Ow.of_own (World.ownsRow_lit (base := w.heap.size) (e := 2) (size := 1) w1 #[.int .i64 1] 1 hs1 (by decide) rfl))
    have hbe1 : Below w.heap.size w (w1.alloc (.cells #[.int .i64 1] 2)) := hb1.alloc hs1 _
    clear hb1
    go_wp2_with fail
    go_loopw [5, 6] (fun o i wr => ∃ (k : Nat) (L : List Int), k ≤ n ∧ i = .int .i64 k ∧ Hid (Ow wr w.heap.size wr.heap.size o L) ∧ Hid (isPoly L = true ∧ 0 < L.length) ∧ Hid (mulSt xss k L = TOT) ∧ Below w.heap.size w wr) (fun _ i _ => n - (intOf i).toNat)
    case atStart => exact ⟨0, [1], Nat.zero_le _, rfl, hown1, Lib.hid (by decide), Hst, hbe1⟩
    case round =>
      clear hown1 hbe1 Hst hs1
      obtain ⟨k, L, hk, rfl, hown, hpol, hst, hbe⟩ := hrel
      by_cases hlt : k < n
      · obtain ⟨ad, rfl, hab, hc⟩ := hrd (by omega)
        have hc1 : wr.cell? (ad.add k) = some (ux us k) := (hbe.cell (by rw [block_of_add]; omega)).trans (hc k hlt)
        have HC := Lib.hid (show ∀ W, Below w.heap.size w W → W.cell? (ad.add k) = some (ux us k) from fun W hW => (hW.cell (by rw [block_of_add]; omega)).trans (hc k hlt))
        have Hek := Lib.hid (He.out k (by rw [Hn.out]; exact hlt))
        obtain ⟨Ak, nk, ck, euk, hnck, hcmk, hrdk⟩ := Hek.out
        rw [euk] at hc1 HC
        have hln := hrdk.len
        obtain ⟨r1, r2, r3⟩ := okB_true.1 (Hok.out k (by rw [Hn.out]; exact hlt))
        have hnk2 : nk = 2 := by omega
        subst hnk2
        obtain ⟨ak, rfl, habk, hck⟩ := hrdk.pos (by omega)
        obtain ⟨a, ha⟩ : ∃ a : Nat, gx (gxx xss k) 0 = (a : Int) := ⟨(gx (gxx xss k) 0).toNat, by omega⟩
        obtain ⟨e0, he0⟩ : ∃ e0, gx (gxx xss k) 1 = e0 := ⟨_, rfl⟩
        have Ha := Lib.hid (show (gx (gxx xss k) 0).toNat = a by omega)
        have ha1 : 1 ≤ a := by omega
        have ha2 : a ≤ 2000 := by omega
        have hcka := hck 0 (by omega)
        have hckb := hck 1 (by omega)
        rw [ha] at hcka
        rw [he0] at hckb r3
        have HC0 := Lib.hid (show ∀ W, Below w.heap.size w W → W.cell? ak = some (.int .i64 (a : Int)) from fun W hW => by have := (hW.cell (p := ak.add 0) (by rw [block_of_add]; omega)).trans hcka; simpa [Addr.add] using this)
        have HC1 := Lib.hid (show ∀ W, Below w.heap.size w W → W.cell? ⟨ak.block, ak.off + 1, none⟩ = some (.int .i64 e0) from fun W hW => by have := (hW.cell (p := ak.add 1) (by rw [block_of_add]; omega)).trans hckb; simpa [Addr.add] using this)
        have hck0 := HC0.out wr hbe
        have hck1 := HC1.out wr hbe
        have Hbin := Lib.hid (binL_isPoly ha1 ha2)
        have Hbl := Lib.hid (show 0 < (binL a).length by rw [binL_len]; omega)
        have He0 := Lib.hid he0
        have hi1 : 0 ≤ (k : Int) ∧ (k : Int) < (n : Int) := by omega
        unfold maxLen at hcmk
        clear hc euk hck hcka hckb hln r1 r2 hrdk ha he0
        have Hin := Lib.hid (show mulIn xss k e0.toNat L = TOT by rw [← hst.out, mulSt_in (by rw [Hn.out]; exact hlt), He0.out])
        clear hst
        go_wp2_with fail
        go_loopw [5, 7] (fun o e wr => ∃ (t : Int) (L : List Int), -20 ≤ t ∧ t ≤ 20 ∧ e = .int .i64 t ∧ Hid (Ow wr w.heap.size wr.heap.size o L) ∧ Hid (isPoly L = true ∧ 0 < L.length) ∧ Hid (mulIn xss k t.toNat L = TOT) ∧ Below w.heap.size w wr) (fun _ e _ => (intOf e).toNat)
        case atStart => exact ⟨e0, L, by omega, by omega, rfl, hown, hpol, Hin, hbe⟩
        case round =>
          clear hown hpol Hin hbe hc1 hck0 hck1
          obtain ⟨t, L, ht1, ht2, rfl, hown, hpol, hin, hbe⟩ := hrel
          have hc1 := HC.out wr hbe
          have hck0 := HC0.out wr hbe
          have hck1 := HC1.out wr hbe
          by_cases hp : 0 < t
          · obtain ⟨m, hm⟩ : ∃ m : Nat, t.toNat = m + 1 := ⟨t.toNat - 1, by omega⟩
            have Hm := Lib.hid (show (t - 1).toNat = m by omega)
            rw [hm] at hin
            clear hm
            go_wp2_with fail
            refine (l02Binomial_any a _ ha1 ha2).mono ?_
            rintro e w2 ⟨v2, rfl, hown2, hb2⟩
            have hs0 := hbe.size
            have hs2 := hb2.size
            go_wp2_with fail
            refine (l02Product_any w2.heap.size _ v2 L (binL a) w2 (hown.out.later hb2).is hown2.is (Nat.le_refl _) hpol.out.1 Hbin.out).mono ?_
            rintro e w3 ⟨v3, rfl, hown3, hb3⟩
            have hs3 := hb3.size
            have hbe3 : Below w.heap.size w w3 := (hbe.trans (hb2.mono hs0)).trans (hb3.mono (by omega))
            have hbr := hbe; have Hown3 := Lib.hid (hown3.wide (show w.heap.size ≤ w2.heap.size by omega) (Nat.le_refl _))
            clear hbr hown3 hb2 hb3 hown2
            by_cases hcz : (prodP L (binL a)).2 = 0
            · have Hn2 := Lib.hid (show mulIn xss k (t - 1).toNat (prodP L (binL a)).1 = TOT by rw [Hm.out, ← mulIn_ok m Ha.out hcz]; exact hin.out)
              have Hp2 := Lib.hid (step_mul ha1 ha2 hpol.out.1 hpol.out.2 hcz)
              rw [show okb (prodP L (binL a)) = true by unfold okb; rw [hcz]; rfl]
              clear hin hown hpol hcz hbe
              go_wp2_with fail
              go_roundw
              case rel => exact ⟨t - 1, _, by omega, by omega, by go_num, Hown3, Hp2, Hn2, hbe3⟩
              case measure => first | (simp [intOf]; done) | (simp [intOf]; omega)
            · have Hr := Lib.hid (show bnP xss = ([], 3) by rw [HT.out, ← hin.out, mulIn_no m Ha.out hcz])
              rw [show okb (prodP L (binL a)) = false by unfold okb; simp [hcz]]
              clear hin hown hpol hbe
              go_wp2_with fail
              go_ret2
              exact Li2.nil Hr.out hbe3
          · have hz0 : t.toNat = 0 := by omega
            have Hst2 := Lib.hid (show mulSt xss (k + 1) L = TOT by rw [← hin.out, hz0, mulIn_zero])
            clear hin hz0
            go_wp2_with fail
            go_roundw
            case rel => exact ⟨k + 1, L, by omega, by go_num, hown, hpol, Hst2, hbe⟩
            case measure => first | (simp [intOf]; done) | (simp [intOf]; omega)
      · have Hst2 := Lib.hid (show divSt xss 0 L = TOT by rw [← hst.out, mulSt_end (by rw [Hn.out]; omega)])
        clear hst
        go_wp2_with fail
        go_loopw [5, 10] (fun o i wr => ∃ (k : Nat) (L : List Int), k ≤ n ∧ i = .int .i64 k ∧ Hid (Ow wr w.heap.size wr.heap.size o L) ∧ Hid (isPoly L = true ∧ 0 < L.length) ∧ Hid (divSt xss k L = TOT) ∧ Below w.heap.size w wr) (fun _ i _ => n - (intOf i).toNat)
        case atStart => exact ⟨0, L, Nat.zero_le _, rfl, hown, hpol, Hst2, hbe⟩
        case round =>
          clear hown hpol Hst2 hbe
          obtain ⟨k, L, hk, rfl, hown, hpol, hst, hbe⟩ := hrel
          by_cases hlt : k < n
          · obtain ⟨ad, rfl, hab, hc⟩ := hrd (by omega)
            have hc1 : wr.cell? (ad.add k) = some (ux us k) := (hbe.cell (by rw [block_of_add]; omega)).trans (hc k hlt)
            have HC := Lib.hid (show ∀ W, Below w.heap.size w W → W.cell? (ad.add k) = some (ux us k) from fun W hW => (hW.cell (by rw [block_of_add]; omega)).trans (hc k hlt))
            have Hek := Lib.hid (He.out k (by rw [Hn.out]; exact hlt))
            obtain ⟨Ak, nk, ck, euk, hnck, hcmk, hrdk⟩ := Hek.out
            rw [euk] at hc1 HC
            have hln := hrdk.len
            obtain ⟨r1, r2, r3⟩ := okB_true.1 (Hok.out k (by rw [Hn.out]; exact hlt))
            have hnk2 : nk = 2 := by omega
            subst hnk2
            obtain ⟨ak, rfl, habk, hck⟩ := hrdk.pos (by omega)
            obtain ⟨a, ha⟩ : ∃ a : Nat, gx (gxx xss k) 0 = (a : Int) := ⟨(gx (gxx xss k) 0).toNat, by omega⟩
            obtain ⟨e0, he0⟩ : ∃ e0, gx (gxx xss k) 1 = e0 := ⟨_, rfl⟩
            have Ha := Lib.hid (show (gx (gxx xss k) 0).toNat = a by omega)
            have ha1 : 1 ≤ a := by omega
            have ha2 : a ≤ 2000 := by omega
            have hcka := hck 0 (by omega)
            have hckb := hck 1 (by omega)
            rw [ha] at hcka
            rw [he0] at hckb r3
            have HC0 := Lib.hid (show ∀ W, Below w.heap.size w W → W.cell? ak = some (.int .i64 (a : Int)) from fun W hW => by have := (hW.cell (p := ak.add 0) (by rw [block_of_add]; omega)).trans hcka; simpa [Addr.add] using this)
            have HC1 := Lib.hid (show ∀ W, Below w.heap.size w W → W.cell? ⟨ak.block, ak.off + 1, none⟩ = some (.int .i64 e0) from fun W hW => by have := (hW.cell (p := ak.add 1) (by rw [block_of_add]; omega)).trans hckb; simpa [Addr.add] using this)
            have hck0 := HC0.out wr hbe
            have hck1 := HC1.out wr hbe
            have Hbin := Lib.hid (binL_isPoly ha1 ha2)
            have Hbl := Lib.hid (show 0 < (binL a).length by rw [binL_len]; omega)
            have He0 := Lib.hid he0
            have hi1 : 0 ≤ (k : Int) ∧ (k : Int) < (n : Int) := by omega
            unfold maxLen at hcmk
            clear hc euk hck hcka hckb hln r1 r2 hrdk ha he0
            have Hin := Lib.hid (show divIn xss k (-e0).toNat L = TOT by rw [← hst.out, divSt_in (by rw [Hn.out]; exact hlt), He0.out])
            clear hst
            go_wp2_with fail
            go_loopw [5, 11] (fun o e wr => ∃ (t : Int) (L : List Int), -20 ≤ t ∧ t ≤ 20 ∧ e = .int .i64 t ∧ Hid (Ow wr w.heap.size wr.heap.size o L) ∧ Hid (isPoly L = true ∧ 0 < L.length) ∧ Hid (divIn xss k (-t).toNat L = TOT) ∧ Below w.heap.size w wr) (fun _ e _ => (-intOf e).toNat)
            case atStart => exact ⟨e0, L, by omega, by omega, rfl, hown, hpol, Hin, hbe⟩
            case round =>
              clear hown hpol Hin hbe hc1 hck0 hck1
              obtain ⟨t, L, ht1, ht2, rfl, hown, hpol, hin, hbe⟩ := hrel
              have hc1 := HC.out wr hbe
              have hck0 := HC0.out wr hbe
              have hck1 := HC1.out wr hbe
              by_cases hp : t < 0
              · obtain ⟨m, hm⟩ : ∃ m : Nat, (-t).toNat = m + 1 := ⟨(-t).toNat - 1, by omega⟩
                have Hm := Lib.hid (show (-(t + 1)).toNat = m by omega)
                rw [hm] at hin
                clear hm
                go_wp2_with fail
                refine (l02Binomial_any a _ ha1 ha2).mono ?_
                rintro e w2 ⟨v2, rfl, hown2, hb2⟩
                have hs0 := hbe.size
                have hs2 := hb2.size
                go_wp2_with fail
                refine (l02Divide_any w2.heap.size _ v2 L (binL a) w2 (hown.out.later hb2).is hown2.is (Nat.le_refl _) hpol.out.1 Hbin.out Hbl.out).mono ?_
                rintro e w3 ⟨v3, rfl, hown3, hb3⟩
                have hs3 := hb3.size
                have hbe3 : Below w.heap.size w w3 := (hbe.trans (hb2.mono hs0)).trans (hb3.mono (by omega))
                have hbr := hbe; have Hown3 := Lib.hid (hown3.wide (show w.heap.size ≤ w2.heap.size by omega) (Nat.le_refl _))
                clear hbr hown3 hb2 hb3 hown2
                by_cases hcz : (quoP L (binL a)).2 = 0
                · have Hn2 := Lib.hid (show divIn xss k (-(t + 1)).toNat (quoP L (binL a)).1 = TOT by rw [Hm.out, ← divIn_ok m Ha.out hcz]; exact hin.out)
                  have Hp2 := Lib.hid (step_div ha1 ha2 hpol.out.1 hpol.out.2 hcz)
                  rw [hcz]
                  clear hin hown hpol hcz hbe
                  go_wp2_with fail
                  go_roundw
                  case rel => exact ⟨t + 1, _, by omega, by omega, by go_num, Hown3, Hp2, Hn2, hbe3⟩
                  case measure => first | (simp [intOf]; done) | (simp [intOf]; omega)
                · have Hr := Lib.hid (show bnP xss = ([], (quoP L (binL a)).2) by rw [HT.out, ← hin.out, divIn_no m Ha.out hcz])
                  have hcz2 : ((quoP L (binL a)).2 != 0) = true := by rw [bne_iff_ne]; exact hcz
                  clear hin hown hpol hbe
                  go_wp2_with fail
                  go_ret2
                  exact Li2.nil Hr.out hbe3
              · have hz0 : (-t).toNat = 0 := by omega
                have Hst2 := Lib.hid (show divSt xss (k + 1) L = TOT by rw [← hin.out, hz0, divIn_zero])
                clear hin hz0
                go_wp2_with fail
                go_roundw
                case rel => exact ⟨k + 1, L, by omega, by go_num, hown, hpol, Hst2, hbe⟩
                case measure => first | (simp [intOf]; done) | (simp [intOf]; omega)
          · have Hfit := Lib.hid (show fit2 L = (L, 0) by unfold fit2; rw [hpol.out.1]; rfl)
            have Hr := Lib.hid (show bnP xss = (L, 0) by rw [HT.out, ← hst.out, divSt_end (by rw [Hn.out]; omega)])
            go_wp2_with fail
            refine (l02Fit_any _ _ _ _ _ hown.out).mono ?_
            rintro e w4 ⟨v4, rfl, hown4, rfl⟩
            rw [Hfit.out] at hown4 ⊢
            go_wp2_with fail
            go_ret2
            exact ⟨_, by rw [Hr.out]; rfl, by rw [Hr.out]; exact hown4, hbe⟩
  · have Hr := Lib.hid (show bnP xss = ([], cc) by rw [bnP_no (by rw [Hcc.out]; exact hz), Hcc.out])
    have hze : (cc != 0) = true := by rw [bne_iff_ne]; exact hz
    go_enter Try.func8, Try.ntmps8
    go_wp2_with fail
    refine (l02Binomials_any B _ xss _ Hh.out hB).mono ?_
    rintro e w1 ⟨rfl, hb1⟩
    rw [Hcc.out]
    go_wp2_with fail
    go_ret2
    exact Li2.nil Hr.out hb1
end WB
end Go.Proofs.Ytbkbcpcdnclffaa
