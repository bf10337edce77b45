/-
  WALKS, CHAPTER 2: binomials (printed by gen/genbin.py).
  WALKS, CHAPTER 2: the reference's test of a binomial product's list.
  WALKS, CHAPTER 2: the reference's binomial products (printed by gen/genbp.py).
  WALKS, CHAPTER 2: binomial products (printed by gen/genbpi.py).
-/
import Derived.Test.YtogkblncdpbhnaaWlkBD
import Derived.Test.YtogkblncdpbhnaaPlQ
import Derived.Test.YtogkblncdpbhnaaPlR
namespace Go.Proofs.Ytogkblncdpbhnaa
open Go.RowKit
set_option linter.unusedVariables false
namespace WB
open K Pl WA WL
set_option maxHeartbeats 800000 in
theorem binomial_any (n : Nat) (w : World) (h1 : 1 ≤ n) (h2 : n ≤ 2000) :
    Calls Try.prog 37 #[.int .i64 (n : Int)] w (Li1 (binL n) w) := by
  have HN := Lib.hid (show (n : Int) + 1 = ((n + 1 : Nat) : Int) by omega)
  obtain ⟨N, hN⟩ : ∃ N, N = n + 1 := ⟨_, rfl⟩
  rw [← hN] at HN
  have hb : 0 ≤ (n : Int) ∧ (n : Int) < (N : Int) := by omega
  have hn0 : (n : Int).toNat = n := by omega
  obtain ⟨i0, hi, hz0, hz1, hz2⟩ := info_parts info64
  have Hi := Lib.hid hi; have Hz0 := Lib.hid hz0; have Hz1 := Lib.hid hz1; have Hz2 := Lib.hid hz2
  clear hi hz0 hz1 hz2
  have HNn := Lib.hid hN
  have hN1 : N ≤ 2001 := by omega
  have hN2 : n < N := by omega
  clear hN
  go_enter Try.func37, Try.ntmps37
  go_wp2_with (at_make; refine wpList_make_full _ rfl _ _ 24 rfl w.heap.size 2 i0 (.int .i64 0) 1 Try.underlying24 Hi.out Hz0.out Hz1.out _ _ _ _ N rfl rfl HN.out HN.out ?b ?c ?d ?_)
  case b => rw [Hz2.out]; omega
  case c => unfold maxLen; omega
  try (case d => simp)
  intro w1 hown hgrow
  have hbw : Below w.heap.size w w1 := (Below.refl _ _).grown hgrow (Nat.le_refl _) (by simp)
  have hown0 : w1.ownsRow w.heap.size 2 1 (.slice (some ⟨w.heap.size, 0, none⟩) N N) N ((List.replicate N (0 : Int)).map (Value.int .i64)) := by
    rw [List.map_replicate]
    have e : (madeCells (Value.int IntKind.i64 0).cells (N * 1)).toList = List.replicate N (Value.int .i64 0) := by
      rw [Nat.mul_one]; exact toList_madeCells_one _ N
    rw [← e, Nat.mul_one]; exact hown
  obtain ⟨hc1, hf1, hs1⟩ := mul_round (w := w) (j := 0) (-1) hown0 (by omega)
  obtain ⟨hc2, hf2, hs2⟩ := mul_round (w := w) (j := n) 1 hs1 (by omega)
  have Hs := Lib.hid hs2
  have Hb1 : Below w.heap.size w (w1.setCell ⟨w.heap.size, 0, none⟩ (.int .i64 (-1))) := hbw.setCell (Nat.le_refl _) _
  have Hb2 : Below w.heap.size w ((w1.setCell ⟨w.heap.size, 0, none⟩ (.int .i64 (-1))).setCell ⟨w.heap.size, n, none⟩ (.int .i64 1)) := Hb1.setCell (Nat.le_refl _) _
  have Hb := Lib.hid Hb2
  clear Hb1 Hb2
  clear hown hgrow hown0 hs1 hs2 hbw
  go_wp2
  go_ret
  exact ⟨_, rfl, by
    have e : binL n = ((List.replicate N 0).set 0 (-1)).set n 1 := by rw [HNn.out]; rfl
    rw [e]; exact Ow.of_own Hs.out, Hb.out⟩

set_option maxHeartbeats 800000 in
theorem l02Binomial_any (n : Nat) (w : World) (h1 : 1 ≤ n) (h2 : n ≤ 2000) :
    Calls Try.prog 44 #[.int .i64 (n : Int)] w (Li1 (binL n) w) := by
  have HN := Lib.hid (show (n : Int) + 1 = ((n + 1 : Nat) : Int) by omega)
  obtain ⟨N, hN⟩ : ∃ N, N = n + 1 := ⟨_, rfl⟩
  rw [← hN] at HN
  have hb : 0 ≤ (n : Int) ∧ (n : Int) < (N : Int) := by omega
  have hn0 : (n : Int).toNat = n := by omega
  obtain ⟨i0, hi, hz0, hz1, hz2⟩ := info_parts info64
  have Hi := Lib.hid hi; have Hz0 := Lib.hid hz0; have Hz1 := Lib.hid hz1; have Hz2 := Lib.hid hz2
  clear hi hz0 hz1 hz2
  have HNn := Lib.hid hN
  have hN1 : N ≤ 2001 := by omega
  have hN2 : n < N := by omega
  clear hN
  go_enter Try.func44, Try.ntmps44
  go_wp2_with (at_make; refine wpList_make_full _ rfl _ _ 24 rfl w.heap.size 2 i0 (.int .i64 0) 1 Try.underlying24 Hi.out Hz0.out Hz1.out _ _ _ _ N rfl rfl HN.out HN.out ?b ?c ?d ?_)
  case b => rw [Hz2.out]; omega
  case c => unfold maxLen; omega
  try (case d => simp)
  intro w1 hown hgrow
  have hbw : Below w.heap.size w w1 := (Below.refl _ _).grown hgrow (Nat.le_refl _) (by simp)
  have hown0 : w1.ownsRow w.heap.size 2 1 (.slice (some ⟨w.heap.size, 0, none⟩) N N) N ((List.replicate N (0 : Int)).map (Value.int .i64)) := by
    rw [List.map_replicate]
    have e : (madeCells (Value.int IntKind.i64 0).cells (N * 1)).toList = List.replicate N (Value.int .i64 0) := by
      rw [Nat.mul_one]; exact toList_madeCells_one _ N
    rw [← e, Nat.mul_one]; exact hown
  obtain ⟨hc1, hf1, hs1⟩ := mul_round (w := w) (j := 0) (-1) hown0 (by omega)
  obtain ⟨hc2, hf2, hs2⟩ := mul_round (w := w) (j := n) 1 hs1 (by omega)
  have Hs := Lib.hid hs2
  have Hb1 : Below w.heap.size w (w1.setCell ⟨w.heap.size, 0, none⟩ (.int .i64 (-1))) := hbw.setCell (Nat.le_refl _) _
  have Hb2 : Below w.heap.size w ((w1.setCell ⟨w.heap.size, 0, none⟩ (.int .i64 (-1))).setCell ⟨w.heap.size, n, none⟩ (.int .i64 1)) := Hb1.setCell (Nat.le_refl _) _
  have Hb := Lib.hid Hb2
  clear Hb1 Hb2
  clear hown hgrow hown0 hs1 hs2 hbw
  go_wp2
  go_ret
  exact ⟨_, rfl, by
    have e : binL n = ((List.replicate N 0).set 0 (-1)).set n 1 := by rw [HNn.out]; rfl
    rw [e]; exact Ow.of_own Hs.out, Hb.out⟩
end WB
end Go.Proofs.Ytogkblncdpbhnaa
namespace Go.Proofs.Ytogkblncdpbhnaa
open Go.RowKit
set_option linter.unusedVariables false
namespace WB
open K Pl WA WL
theorem okB_hd {s : List Int} (h : inR (gx s 0) 1 2000 = false) : okB s = false := by unfold okB; rw [h]; simp
theorem okB_sn {s : List Int} (h : inR (gx s 1) (-20) 20 = false) : okB s = false := by unfold okB; rw [h]; simp
theorem okB_ln {s : List Int} (h : s.length ≠ 2) : okB s = false := by unfold okB; simp [h]
theorem dgB_pos {xss : List (List Int)} {k : Nat} (h : 0 < gx (gxx xss k) 1) : dgB xss k + gx (gxx xss k) 0 * gx (gxx xss k) 1 = dgB xss (k + 1) := by
  rw [dgB_succ, show max (gx (gxx xss k) 1) 0 = gx (gxx xss k) 1 by omega]
theorem dgB_neg {xss : List (List Int)} {k : Nat} (h : ¬ 0 < gx (gxx xss k) 1) : dgB xss k = dgB xss (k + 1) := by
  rw [dgB_succ, show max (gx (gxx xss k) 1) 0 = 0 by omega]; omega
theorem mul_bd {a b : Int} (ha : 1 ≤ a ∧ a ≤ 2000) (hb : -20 ≤ b ∧ b ≤ 20) : -40000 ≤ a * b ∧ a * b ≤ 40000 := by
  have h1 : (a * b).natAbs = a.natAbs * b.natAbs := Int.natAbs_mul a b
  have h2 : a.natAbs * b.natAbs ≤ 2000 * 20 := Nat.mul_le_mul (by omega) (by omega)
  omega
set_option maxHeartbeats 1600000 in
theorem l02Binomials_any (B : Nat) (v : Value) (xss : List (List Int)) (w : World) (h : IsR w B v xss) (hB : B ≤ w.heap.size) :
    Calls Try.prog 42 #[v] w fun e w' => e = .returned (.int .i64 (codB xss)) ∧ Below w.heap.size w w' := by
  obtain ⟨us, hU⟩ := h
  obtain ⟨A, c, rfl, hnc, hcm, hrd⟩ := hU.sh
  have He := Lib.hid hU.each
  obtain ⟨n, Hn⟩ : ∃ n, Hid (xss.length = n) := ⟨_, Lib.hid rfl⟩
  rw [Hn.out] at hnc hrd
  rw [Hn.out]
  unfold maxLen at hcm
  clear hU
  by_cases h6 : 40 < n
  · have Hr := Lib.hid (codB_long (xss := xss) (by rw [Hn.out]; exact h6))
    have h6' : (40 : Int) < (n : Int) := by omega
    go_enter Try.func42, Try.ntmps42
    go_wp2
    go_ret
    exact ⟨ret_i Hr.out.symm, Below.refl _ _⟩
  · have h6' : ¬ (40 : Int) < (n : Int) := by omega
    go_enter Try.func42, Try.ntmps42
    go_wp2
    go_loopw [3, 4] (fun m i wr => ∃ k : Nat, k ≤ n ∧ i = .int .i64 k ∧ m = .int .i64 (dgB xss k) ∧ Hid (∀ j, j < k → okB (gxx xss j) = true) ∧ Below w.heap.size w wr) (fun m i _ => n - (intOf i).toNat)
    case atStart => exact ⟨0, Nat.zero_le _, rfl, rfl, Lib.hid (fun j h1 => by omega), Below.refl _ _⟩
    case round =>
      obtain ⟨k, hk, rfl, rfl, hpre, hbe⟩ := hrel
      have hdg := dgB_bd k hpre.out
      by_cases hlt : k < n
      · obtain ⟨ad, rfl, hab, hc⟩ := hrd (by omega)
        have hc1 : wr.cell? (ad.add k) = some (ux us k) := (hbe.cell (by rw [block_of_add]; omega)).trans (hc k hlt)
        have Hek := Lib.hid (He.out k (by rw [Hn.out]; exact hlt))
        obtain ⟨Ak, nk, ck, euk, hnck, hcmk, hrdk⟩ := Hek.out
        rw [euk] at hc1
        have Hlk := Lib.hid hrdk.len
        have hi1 : 0 ≤ (k : Int) ∧ (k : Int) < (n : Int) := by omega
        unfold maxLen at hcmk
        clear hc euk
        by_cases hl2 : nk = 2
        · have hne : ((nk : Int) != 2) = false := by rw [hl2]; rfl
          obtain ⟨ak, rfl, habk, hck⟩ := hrdk.pos (by omega)
          have hck0 : wr.cell? ak = some (.int .i64 (gx (gxx xss k) 0)) := by have := (hbe.cell (p := ak.add 0) (by rw [block_of_add]; omega)).trans (hck 0 (by omega)); simpa [Addr.add] using this
          have hck1 : wr.cell? ⟨ak.block, ak.off + 1, none⟩ = some (.int .i64 (gx (gxx xss k) 1)) := by have := (hbe.cell (p := ak.add 1) (by rw [block_of_add]; omega)).trans (hck 1 (by omega)); simpa [Addr.add] using this
          have hk0 : (0 : Int) < (nk : Int) := by omega
          have hk1 : (1 : Int) < (nk : Int) := by omega
          have hk2 : 0 < nk := by omega
          have hk3 : 1 < nk := by omega
          have Hnk := Lib.hid hl2
          clear hrdk hck hl2
          cases hH : inR (gx (gxx xss k) 0) 1 2000
          · have Hr := Lib.hid (codB_bad (allB_no k (by rw [Hn.out]; exact hlt) (okB_hd hH)))
            go_wp2_with (go_at_call 36; refine (l01In_any _ _ _ _).mono ?_; rintro e w' ⟨rfl, rfl⟩)
            go_ret
            exact ⟨ret_i Hr.out.symm, hbe⟩
          · cases hS : inR (gx (gxx xss k) 1) (-20) 20
            · have Hr := Lib.hid (codB_bad (allB_no k (by rw [Hn.out]; exact hlt) (okB_sn hS)))
              go_wp2_with (go_at_call 36; refine (l01In_any _ _ _ _).mono ?_; rintro e w' ⟨rfl, rfl⟩)
              go_ret
              exact ⟨ret_i Hr.out.symm, hbe⟩
            · have hok : okB (gxx xss k) = true := okB_true.2 ⟨by rw [Hlk.out, Hnk.out], inR_true.1 hH, inR_true.1 hS⟩
              have Hpre2 := Lib.hid (show ∀ j, j < k + 1 → okB (gxx xss j) = true from fun j h2 => by
                rcases Nat.lt_or_ge j k with h3 | h3
                · exact hpre.out j h3
                · obtain rfl : j = k := by omega
                  exact hok)
              have hm := mul_bd (inR_true.1 hH) (inR_true.1 hS)
              clear hok
              by_cases hp : 0 < gx (gxx xss k) 1
              · have Hs := Lib.hid (dgB_pos hp)
                go_wp2_with (go_at_call 36; refine (l01In_any _ _ _ _).mono ?_; rintro e w' ⟨rfl, rfl⟩)
                go_quiet (fail)
                go_wp2
                go_roundw
                case rel => exact ⟨k + 1, by omega, by go_num, by rw [← Hs.out], Hpre2, below_drewN hbe _⟩
                case measure => first | (simp [intOf]; done) | (simp [intOf]; omega)
              · have Hs := Lib.hid (dgB_neg hp)
                go_wp2_with (go_at_call 36; refine (l01In_any _ _ _ _).mono ?_; rintro e w' ⟨rfl, rfl⟩)
                go_roundw
                case rel => exact ⟨k + 1, by omega, by go_num, by rw [← Hs.out], Hpre2, hbe⟩
                case measure => first | (simp [intOf]; done) | (simp [intOf]; omega)
        · have hne : ((nk : Int) != 2) = true := by rw [bne_iff_ne]; omega
          have Hr := Lib.hid (codB_bad (allB_no k (by rw [Hn.out]; exact hlt) (okB_ln (by rw [Hlk.out]; exact hl2))))
          clear hrdk
          go_wp2_with fail
          go_ret
          exact ⟨ret_i Hr.out.symm, hbe⟩
      · have hkn : k = n := by omega
        subst hkn
        have Ha := Lib.hid (show allB xss = true from allB_true.2 fun i hi => hpre.out i (by rw [Hn.out] at hi; exact hi))
        by_cases hbig : 2000 < dgB xss k
        · have Hr := Lib.hid (codB_deg (by rw [Hn.out]; omega) Ha.out (by rw [Hn.out]; exact hbig))
          go_wp2
          go_ret
          exact ⟨ret_i Hr.out.symm, hbe⟩
        · have Hr := Lib.hid (codB_ok (by rw [Hn.out]; omega) Ha.out (by rw [Hn.out]; exact hbig))
          go_wp2
          go_ret
          exact ⟨ret_i Hr.out.symm, hbe⟩
end WB
end Go.Proofs.Ytogkblncdpbhnaa
namespace Go.Proofs.Ytogkblncdpbhnaa
open Go.RowKit
set_option linter.unusedVariables false
namespace WB
open K Pl WA WL
set_option maxHeartbeats 3200000 in
theorem sBinomialProduct_any (B : Nat) (v : Value) (xss : List (List Int)) (w : World) (h : IsR w B v xss) (hB : B ≤ w.heap.size) :
    Calls Try.prog 17 #[v] w (Li2 (bnP xss) w) := by
  have h0 := h
  obtain ⟨us, hU⟩ := h
  obtain ⟨A, c, rfl, hnc, hcm, hrd⟩ := hU.sh
  have He := Lib.hid hU.each
  obtain ⟨n, Hn⟩ : ∃ n, Hid (xss.length = n) := ⟨_, Lib.hid rfl⟩
  rw [Hn.out] at hnc hrd
  rw [Hn.out]
  unfold maxLen at hcm
  clear hU
  have Hh := Lib.hid (show IsR w B (.slice A n c) xss from by rw [Hn.out] at h0; exact h0)
  clear h0
  obtain ⟨cc, Hcc⟩ : ∃ cc, Hid (codB xss = cc) := ⟨_, Lib.hid rfl⟩
  by_cases hz : cc = 0
  · subst hz
    have Hok := Lib.hid (codB_zero Hcc.out).2
    obtain ⟨TOT, HT⟩ : ∃ TOT, Hid (bnP xss = TOT) := ⟨_, Lib.hid rfl⟩
    have Hst := Lib.hid (show mulSt xss 0 [1] = TOT by rw [← HT.out, bnP_run Hcc.out])
    go_enter Try.func17, Try.ntmps17
    go_wp2_with fail
    refine (l02Binomials_any B _ xss _ Hh.out hB).mono ?_
    rintro e w1 ⟨rfl, hb1⟩
    rw [Hcc.out]
    have hs1 := hb1.size
    have hown1 := Lib.hid (show Ow (w1.alloc (.cells #[.int .i64 1] 2)) w.heap.size (w1.alloc (.cells #[.int .i64 1] 2)).heap.size (.slice (some ⟨w1.heap.size, 0, none⟩) 1 1) [1] from Ow.of_own (World.ownsRow_lit (base := w.heap.size) (e := 2) (size := 1) w1 #[.int .i64 1] 1 hs1 (by decide) rfl))
    have hbe1 : Below w.heap.size w (w1.alloc (.cells #[.int .i64 1] 2)) := hb1.alloc hs1 _
    clear hb1
    go_wp2_with fail
    go_loopw [5, 6] (fun o i wr => ∃ (k : Nat) (L : List Int), k ≤ n ∧ i = .int .i64 k ∧ Hid (Ow wr w.heap.size wr.heap.size o L) ∧ Hid (isPoly L = true ∧ 0 < L.length) ∧ Hid (mulSt xss k L = TOT) ∧ Below w.heap.size w wr) (fun _ i _ => n - (intOf i).toNat)
    case atStart => exact ⟨0, [1], Nat.zero_le _, rfl, hown1, Lib.hid (by decide), Hst, hbe1⟩
    case round =>
      clear hown1 hbe1 Hst hs1
      obtain ⟨k, L, hk, rfl, hown, hpol, hst, hbe⟩ := hrel
      by_cases hlt : k < n
      · obtain ⟨ad, rfl, hab, hc⟩ := hrd (by omega)
        have hc1 : wr.cell? (ad.add k) = some (ux us k) := (hbe.cell (by rw [block_of_add]; omega)).trans (hc k hlt)
        have HC := Lib.hid (show ∀ W, Below w.heap.size w W → W.cell? (ad.add k) = some (ux us k) from fun W hW => (hW.cell (by rw [block_of_add]; omega)).trans (hc k hlt))
        have Hek := Lib.hid (He.out k (by rw [Hn.out]; exact hlt))
        obtain ⟨Ak, nk, ck, euk, hnck, hcmk, hrdk⟩ := Hek.out
        rw [euk] at hc1 HC
        have hln := hrdk.len
        obtain ⟨r1, r2, r3⟩ := okB_true.1 (Hok.out k (by rw [Hn.out]; exact hlt))
        have hnk2 : nk = 2 := by omega
        subst hnk2
        obtain ⟨ak, rfl, habk, hck⟩ := hrdk.pos (by omega)
        obtain ⟨a, ha⟩ : ∃ a : Nat, gx (gxx xss k) 0 = (a : Int) := ⟨(gx (gxx xss k) 0).toNat, by omega⟩
        obtain ⟨e0, he0⟩ : ∃ e0, gx (gxx xss k) 1 = e0 := ⟨_, rfl⟩
        have Ha := Lib.hid (show (gx (gxx xss k) 0).toNat = a by omega)
        have ha1 : 1 ≤ a := by omega
        have ha2 : a ≤ 2000 := by omega
        have hcka := hck 0 (by omega)
        have hckb := hck 1 (by omega)
        rw [ha] at hcka
        rw [he0] at hckb r3
        have HC0 := Lib.hid (show ∀ W, Below w.heap.size w W → W.cell? ak = some (.int .i64 (a : Int)) from fun W hW => by have := (hW.cell (p := ak.add 0) (by rw [block_of_add]; omega)).trans hcka; simpa [Addr.add] using this)
        have HC1 := Lib.hid (show ∀ W, Below w.heap.size w W → W.cell? ⟨ak.block, ak.off + 1, none⟩ = some (.int .i64 e0) from fun W hW => by have := (hW.cell (p := ak.add 1) (by rw [block_of_add]; omega)).trans hckb; simpa [Addr.add] using this)
        have hck0 := HC0.out wr hbe
        have hck1 := HC1.out wr hbe
        have Hbin := Lib.hid (binL_isPoly ha1 ha2)
        have Hbl := Lib.hid (show 0 < (binL a).length by rw [binL_len]; omega)
        have He0 := Lib.hid he0
        have hi1 : 0 ≤ (k : Int) ∧ (k : Int) < (n : Int) := by omega
        unfold maxLen at hcmk
        clear hc euk hck hcka hckb hln r1 r2 hrdk ha he0
        have Hin := Lib.hid (show mulIn xss k e0.toNat L = TOT by rw [← hst.out, mulSt_in (by rw [Hn.out]; exact hlt), He0.out])
        clear hst
        go_wp2_with fail
        go_loopw [5, 7] (fun o e wr => ∃ (t : Int) (L : List Int), -20 ≤ t ∧ t ≤ 20 ∧ e = .int .i64 t ∧ Hid (Ow wr w.heap.size wr.heap.size o L) ∧ Hid (isPoly L = true ∧ 0 < L.length) ∧ Hid (mulIn xss k t.toNat L = TOT) ∧ Below w.heap.size w wr) (fun _ e _ => (intOf e).toNat)
        case atStart => exact ⟨e0, L, by omega, by omega, rfl, hown, hpol, Hin, hbe⟩
        case round =>
          clear hown hpol Hin hbe hc1 hck0 hck1
          obtain ⟨t, L, ht1, ht2, rfl, hown, hpol, hin, hbe⟩ := hrel
          have hc1 := HC.out wr hbe
          have hck0 := HC0.out wr hbe
          have hck1 := HC1.out wr hbe
          by_cases hp : 0 < t
          · obtain ⟨m, hm⟩ : ∃ m : Nat, t.toNat = m + 1 := ⟨t.toNat - 1, by omega⟩
            have Hm := Lib.hid (show (t - 1).toNat = m by omega)
            rw [hm] at hin
            clear hm
            go_wp2_with fail
            refine (l02Binomial_any a _ ha1 ha2).mono ?_
            rintro e w2 ⟨v2, rfl, hown2, hb2⟩
            have hs0 := hbe.size
            have hs2 := hb2.size
            go_wp2_with fail
            refine (l02Product_any w2.heap.size _ v2 L (binL a) w2 (hown.out.later hb2).is hown2.is (Nat.le_refl _) hpol.out.1 Hbin.out).mono ?_
            rintro e w3 ⟨v3, rfl, hown3, hb3⟩
            have hs3 := hb3.size
            have hbe3 : Below w.heap.size w w3 := (hbe.trans (hb2.mono hs0)).trans (hb3.mono (by omega))
            have hbr := hbe; have Hown3 := Lib.hid (hown3.wide (show w.heap.size ≤ w2.heap.size by omega) (Nat.le_refl _))
            clear hbr hown3 hb2 hb3 hown2
            by_cases hcz : (prodP L (binL a)).2 = 0
            · have Hn2 := Lib.hid (show mulIn xss k (t - 1).toNat (prodP L (binL a)).1 = TOT by rw [Hm.out, ← mulIn_ok m Ha.out hcz]; exact hin.out)
              have Hp2 := Lib.hid (step_mul ha1 ha2 hpol.out.1 hpol.out.2 hcz)
              rw [show okb (prodP L (binL a)) = true by unfold okb; rw [hcz]; rfl]
              clear hin hown hpol hcz hbe
              go_wp2_with fail
              go_roundw
              case rel => exact ⟨t - 1, _, by omega, by omega, by go_num, Hown3, Hp2, Hn2, hbe3⟩
              case measure => first | (simp [intOf]; done) | (simp [intOf]; omega)
            · have Hr := Lib.hid (show bnP xss = ([], 3) by rw [HT.out, ← hin.out, mulIn_no m Ha.out hcz])
              rw [show okb (prodP L (binL a)) = false by unfold okb; simp [hcz]]
              clear hin hown hpol hbe
              go_wp2_with fail
              go_ret2
              exact Li2.nil Hr.out hbe3
          · have hz0 : t.toNat = 0 := by omega
            have Hst2 := Lib.hid (show mulSt xss (k + 1) L = TOT by rw [← hin.out, hz0, mulIn_zero])
            clear hin hz0
            go_wp2_with fail
            go_roundw
            case rel => exact ⟨k + 1, L, by omega, by go_num, hown, hpol, Hst2, hbe⟩
            case measure => first | (simp [intOf]; done) | (simp [intOf]; omega)
      · have Hst2 := Lib.hid (show divSt xss 0 L = TOT by rw [← hst.out, mulSt_end (by rw [Hn.out]; omega)])
        clear hst
        go_wp2_with fail
        go_loopw [5, 10] (fun o i wr => ∃ (k : Nat) (L : List Int), k ≤ n ∧ i = .int .i64 k ∧ Hid (Ow wr w.heap.size wr.heap.size o L) ∧ Hid (isPoly L = true ∧ 0 < L.length) ∧ Hid (divSt xss k L = TOT) ∧ Below w.heap.size w wr) (fun _ i _ => n - (intOf i).toNat)
        case atStart => exact ⟨0, L, Nat.zero_le _, rfl, hown, hpol, Hst2, hbe⟩
        case round =>
          clear hown hpol Hst2 hbe
          obtain ⟨k, L, hk, rfl, hown, hpol, hst, hbe⟩ := hrel
          by_cases hlt : k < n
          · obtain ⟨ad, rfl, hab, hc⟩ := hrd (by omega)
            have hc1 : wr.cell? (ad.add k) = some (ux us k) := (hbe.cell (by rw [block_of_add]; omega)).trans (hc k hlt)
            have HC := Lib.hid (show ∀ W, Below w.heap.size w W → W.cell? (ad.add k) = some (ux us k) from fun W hW => (hW.cell (by rw [block_of_add]; omega)).trans (hc k hlt))
            have Hek := Lib.hid (He.out k (by rw [Hn.out]; exact hlt))
            obtain ⟨Ak, nk, ck, euk, hnck, hcmk, hrdk⟩ := Hek.out
            rw [euk] at hc1 HC
            have hln := hrdk.len
            obtain ⟨r1, r2, r3⟩ := okB_true.1 (Hok.out k (by rw [Hn.out]; exact hlt))
            have hnk2 : nk = 2 := by omega
            subst hnk2
            obtain ⟨ak, rfl, habk, hck⟩ := hrdk.pos (by omega)
            obtain ⟨a, ha⟩ : ∃ a : Nat, gx (gxx xss k) 0 = (a : Int) := ⟨(gx (gxx xss k) 0).toNat, by omega⟩
            obtain ⟨e0, he0⟩ : ∃ e0, gx (gxx xss k) 1 = e0 := ⟨_, rfl⟩
            have Ha := Lib.hid (show (gx (gxx xss k) 0).toNat = a by omega)
            have ha1 : 1 ≤ a := by omega
            have ha2 : a ≤ 2000 := by omega
            have hcka := hck 0 (by omega)
            have hckb := hck 1 (by omega)
            rw [ha] at hcka
            rw [he0] at hckb r3
            have HC0 := Lib.hid (show ∀ W, Below w.heap.size w W → W.cell? ak = some (.int .i64 (a : Int)) from fun W hW => by have := (hW.cell (p := ak.add 0) (by rw [block_of_add]; omega)).trans hcka; simpa [Addr.add] using this)
            have HC1 := Lib.hid (show ∀ W, Below w.heap.size w W → W.cell? ⟨ak.block, ak.off + 1, none⟩ = some (.int .i64 e0) from fun W hW => by have := (hW.cell (p := ak.add 1) (by rw [block_of_add]; omega)).trans hckb; simpa [Addr.add] using this)
            have hck0 := HC0.out wr hbe
            have hck1 := HC1.out wr hbe
            have Hbin := Lib.hid (binL_isPoly ha1 ha2)
            have Hbl := Lib.hid (show 0 < (binL a).length by rw [binL_len]; omega)
            have He0 := Lib.hid he0
            have hi1 : 0 ≤ (k : Int) ∧ (k : Int) < (n : Int) := by omega
            unfold maxLen at hcmk
            clear hc euk hck hcka hckb hln r1 r2 hrdk ha he0
            have Hin := Lib.hid (show divIn xss k (-e0).toNat L = TOT by rw [← hst.out, divSt_in (by rw [Hn.out]; exact hlt), He0.out])
            clear hst
            go_wp2_with fail
            go_loopw [5, 11] (fun o e wr => ∃ (t : Int) (L : List Int), -20 ≤ t ∧ t ≤ 20 ∧ e = .int .i64 t ∧ Hid (Ow wr w.heap.size wr.heap.size o L) ∧ Hid (isPoly L = true ∧ 0 < L.length) ∧ Hid (divIn xss k (-t).toNat L = TOT) ∧ Below w.heap.size w wr) (fun _ e _ => (-intOf e).toNat)
            case atStart => exact ⟨e0, L, by omega, by omega, rfl, hown, hpol, Hin, hbe⟩
            case round =>
              clear hown hpol Hin hbe hc1 hck0 hck1
              obtain ⟨t, L, ht1, ht2, rfl, hown, hpol, hin, hbe⟩ := hrel
              have hc1 := HC.out wr hbe
              have hck0 := HC0.out wr hbe
              have hck1 := HC1.out wr hbe
              by_cases hp : t < 0
              · obtain ⟨m, hm⟩ : ∃ m : Nat, (-t).toNat = m + 1 := ⟨(-t).toNat - 1, by omega⟩
                have Hm := Lib.hid (show (-(t + 1)).toNat = m by omega)
                rw [hm] at hin
                clear hm
                go_wp2_with fail
                refine (l02Binomial_any a _ ha1 ha2).mono ?_
                rintro e w2 ⟨v2, rfl, hown2, hb2⟩
                have hs0 := hbe.size
                have hs2 := hb2.size
                go_wp2_with fail
                refine (l02Divide_any w2.heap.size _ v2 L (binL a) w2 (hown.out.later hb2).is hown2.is (Nat.le_refl _) hpol.out.1 Hbin.out Hbl.out).mono ?_
                rintro e w3 ⟨v3, rfl, hown3, hb3⟩
                have hs3 := hb3.size
                have hbe3 : Below w.heap.size w w3 := (hbe.trans (hb2.mono hs0)).trans (hb3.mono (by omega))
                have hbr := hbe; have Hown3 := Lib.hid (hown3.wide (show w.heap.size ≤ w2.heap.size by omega) (Nat.le_refl _))
                clear hbr hown3 hb2 hb3 hown2
                by_cases hcz : (quoP L (binL a)).2 = 0
                · have Hn2 := Lib.hid (show divIn xss k (-(t + 1)).toNat (quoP L (binL a)).1 = TOT by rw [Hm.out, ← divIn_ok m Ha.out hcz]; exact hin.out)
                  have Hp2 := Lib.hid (step_div ha1 ha2 hpol.out.1 hpol.out.2 hcz)
                  rw [hcz]
                  clear hin hown hpol hcz hbe
                  go_wp2_with fail
                  go_roundw
                  case rel => exact ⟨t + 1, _, by omega, by omega, by go_num, Hown3, Hp2, Hn2, hbe3⟩
                  case measure => first | (simp [intOf]; done) | (simp [intOf]; omega)
                · have Hr := Lib.hid (show bnP xss = ([], (quoP L (binL a)).2) by rw [HT.out, ← hin.out, divIn_no m Ha.out hcz])
                  have hcz2 : ((quoP L (binL a)).2 != 0) = true := by rw [bne_iff_ne]; exact hcz
                  clear hin hown hpol hbe
                  go_wp2_with fail
                  go_ret2
                  exact Li2.nil Hr.out hbe3
              · have hz0 : (-t).toNat = 0 := by omega
                have Hst2 := Lib.hid (show divSt xss (k + 1) L = TOT by rw [← hin.out, hz0, divIn_zero])
                clear hin hz0
                go_wp2_with fail
                go_roundw
                case rel => exact ⟨k + 1, L, by omega, by go_num, hown, hpol, Hst2, hbe⟩
                case measure => first | (simp [intOf]; done) | (simp [intOf]; omega)
          · have Hfit := Lib.hid (show fit2 L = (L, 0) by unfold fit2; rw [hpol.out.1]; rfl)
            have Hr := Lib.hid (show bnP xss = (L, 0) by rw [HT.out, ← hst.out, divSt_end (by rw [Hn.out]; omega)])
            go_wp2_with fail
            refine (l02Fit_any _ _ _ _ _ hown.out).mono ?_
            rintro e w4 ⟨v4, rfl, hown4, rfl⟩
            rw [Hfit.out] at hown4 ⊢
            go_wp2_with fail
            go_ret2
            exact ⟨_, by rw [Hr.out]; rfl, by rw [Hr.out]; exact hown4, hbe⟩
  · have Hr := Lib.hid (show bnP xss = ([], cc) by rw [bnP_no (by rw [Hcc.out]; exact hz), Hcc.out])
    have hze : (cc != 0) = true := by rw [bne_iff_ne]; exact hz
    go_enter Try.func17, Try.ntmps17
    go_wp2_with fail
    refine (l02Binomials_any B _ xss _ Hh.out hB).mono ?_
    rintro e w1 ⟨rfl, hb1⟩
    rw [Hcc.out]
    go_wp2_with fail
    go_ret2
    exact Li2.nil Hr.out hb1
end WB
end Go.Proofs.Ytogkblncdpbhnaa
namespace Go.Proofs.Ytogkblncdpbhnaa
open Go.RowKit
set_option linter.unusedVariables false
namespace WB
open K Pl WA WL
set_option maxHeartbeats 3200000 in
theorem BinomialProduct_any (B : Nat) (v : Value) (xss : List (List Int)) (w : World) (h : IsR w B v xss) (hB : B ≤ w.heap.size) :
    Calls Try.prog 14 #[v] w (Li2 (bnP xss) w) := by
  have h0 := h
  obtain ⟨us, hU⟩ := h
  obtain ⟨A, c, rfl, hnc, hcm, hrd⟩ := hU.sh
  have He := Lib.hid hU.each
  obtain ⟨n, Hn⟩ : ∃ n, Hid (xss.length = n) := ⟨_, Lib.hid rfl⟩
  rw [Hn.out] at hnc hrd
  rw [Hn.out]
  unfold maxLen at hcm
  clear hU
  have Hh := Lib.hid (show IsR w B (.slice A n c) xss from by rw [Hn.out] at h0; exact h0)
  clear h0
  by_cases h6 : 40 < n
  · have hcd := codB_long (xss := xss) (by rw [Hn.out]; exact h6)
    have Hr := Lib.hid (show bnP xss = ([], 2) by rw [bnP_no (by rw [hcd]; decide), hcd])
    have h6' : (40 : Int) < (n : Int) := by omega
    clear hcd
    go_enter Try.func14, Try.ntmps14
    go_wp2_with fail
    go_ret2
    exact Li2.nil Hr.out (Below.refl _ _)
  · have h6' : ¬ (40 : Int) < (n : Int) := by omega
    go_enter Try.func14, Try.ntmps14
    go_wp2_with fail
    go_loopw [4, 23] (fun m i wr => ∃ k : Nat, k ≤ n ∧ i = .int .i64 k ∧ m = .int .i64 (dgB xss k) ∧ Hid (∀ j, j < k → okB (gxx xss j) = true) ∧ Below w.heap.size w wr) (fun m i _ => n - (intOf i).toNat)
    case atStart => exact ⟨0, Nat.zero_le _, rfl, rfl, Lib.hid (fun j h1 => by omega), Below.refl _ _⟩
    case round =>
      obtain ⟨k, hk, rfl, rfl, hpre, hbe⟩ := hrel
      have hdg := dgB_bd k hpre.out
      by_cases hlt : k < n
      · obtain ⟨ad, rfl, hab, hc⟩ := hrd (by omega)
        have hc1 : wr.cell? (ad.add k) = some (ux us k) := (hbe.cell (by rw [block_of_add]; omega)).trans (hc k hlt)
        have Hek := Lib.hid (He.out k (by rw [Hn.out]; exact hlt))
        obtain ⟨Ak, nk, ck, euk, hnck, hcmk, hrdk⟩ := Hek.out
        rw [euk] at hc1
        have Hlk := Lib.hid hrdk.len
        have hi1 : 0 ≤ (k : Int) ∧ (k : Int) < (n : Int) := by omega
        unfold maxLen at hcmk
        clear hc euk
        by_cases hl2 : nk = 2
        · have hne : ((nk : Int) != 2) = false := by rw [hl2]; rfl
          obtain ⟨ak, rfl, habk, hck⟩ := hrdk.pos (by omega)
          have hck0 : wr.cell? ak = some (.int .i64 (gx (gxx xss k) 0)) := by have := (hbe.cell (p := ak.add 0) (by rw [block_of_add]; omega)).trans (hck 0 (by omega)); simpa [Addr.add] using this
          have hck1 : wr.cell? ⟨ak.block, ak.off + 1, none⟩ = some (.int .i64 (gx (gxx xss k) 1)) := by have := (hbe.cell (p := ak.add 1) (by rw [block_of_add]; omega)).trans (hck 1 (by omega)); simpa [Addr.add] using this
          have hk0 : (0 : Int) < (nk : Int) := by omega
          have hk1 : (1 : Int) < (nk : Int) := by omega
          have hk2 : 0 < nk := by omega
          have hk3 : 1 < nk := by omega
          have Hnk := Lib.hid hl2
          clear hrdk hck hl2
          cases hH : inR (gx (gxx xss k) 0) 1 2000
          · have hcd := codB_bad (allB_no k (by rw [Hn.out]; exact hlt) (okB_hd hH))
            have Hr := Lib.hid (show bnP xss = ([], 2) by rw [bnP_no (by rw [hcd]; decide), hcd])
            clear hcd
            go_wp2_with (go_at_call 34; refine (inRange_any _ _ _ _).mono ?_; rintro e w' ⟨rfl, rfl⟩)
            go_ret2
            exact Li2.nil Hr.out hbe
          · cases hS : inR (gx (gxx xss k) 1) (-20) 20
            · have hcd := codB_bad (allB_no k (by rw [Hn.out]; exact hlt) (okB_sn hS))
              have Hr := Lib.hid (show bnP xss = ([], 2) by rw [bnP_no (by rw [hcd]; decide), hcd])
              clear hcd
              go_wp2_with (go_at_call 34; refine (inRange_any _ _ _ _).mono ?_; rintro e w' ⟨rfl, rfl⟩)
              go_ret2
              exact Li2.nil Hr.out hbe
            · have hok : okB (gxx xss k) = true := okB_true.2 ⟨by rw [Hlk.out, Hnk.out], inR_true.1 hH, inR_true.1 hS⟩
              have Hpre2 := Lib.hid (show ∀ j, j < k + 1 → okB (gxx xss j) = true from fun j h2 => by
                rcases Nat.lt_or_ge j k with h3 | h3
                · exact hpre.out j h3
                · obtain rfl : j = k := by omega
                  exact hok)
              have hS2 := inR_true.1 hS
              obtain ⟨M, hM⟩ : ∃ M, max (gx (gxx xss k) 1) 0 = M := ⟨_, rfl⟩
              have hrunmax : ∀ (W : World) (ts : Array TypeId) (t : TypeId), (Builtin.max_ ts t #[.int .i64 (gx (gxx xss k) 1), .int .i64 0]).run Try.prog W = .ok (.int .i64 M) W := by
                intro W ts t
                rw [run_max_int2, ← hM, show (if (0 : Int) > gx (gxx xss k) 1 then (0 : Int) else gx (gxx xss k) 1) = max (gx (gxx xss k) 1) 0 by split <;> omega]
              have hm := mul_bd (b := M) (inR_true.1 hH) (by omega)
              have Hs := Lib.hid (show dgB xss k + gx (gxx xss k) 0 * M = dgB xss (k + 1) by rw [← hM]; exact (dgB_succ xss k).symm)
              clear hok hM hS2
              go_wp2_with (go_at_call 34; refine (inRange_any _ _ _ _).mono ?_; rintro e w' ⟨rfl, rfl⟩)
              go_quiet (fail)
              go_wp2
              go_roundw
              case rel => exact ⟨k + 1, by omega, by go_num, by rw [← Hs.out], Hpre2, below_drewN hbe _⟩
              case measure => first | (simp [intOf]; done) | (simp [intOf]; omega)
        · have hne : ((nk : Int) != 2) = true := by rw [bne_iff_ne]; omega
          have hcd := codB_bad (allB_no k (by rw [Hn.out]; exact hlt) (okB_ln (by rw [Hlk.out]; exact hl2)))
          have Hr := Lib.hid (show bnP xss = ([], 2) by rw [bnP_no (by rw [hcd]; decide), hcd])
          clear hcd
          clear hrdk
          go_wp2_with fail
          go_ret2
          exact Li2.nil Hr.out hbe
      · have hkn : n = k := by omega
        subst hkn
        have Ha := Lib.hid (show allB xss = true from allB_true.2 fun i hi => hpre.out i (by rw [Hn.out] at hi; exact hi))
        by_cases hbig : 2000 < dgB xss n
        · have hcd := codB_deg (by rw [Hn.out]; omega) Ha.out (by rw [Hn.out]; exact hbig)
          have Hr := Lib.hid (show bnP xss = ([], 3) by rw [bnP_no (by rw [hcd]; decide), hcd])
          clear hcd
          go_wp2_with fail
          go_ret2
          exact Li2.nil Hr.out hbe
        · have Hok := hpre
          have hcd := codB_ok (by rw [Hn.out]; omega) Ha.out (by rw [Hn.out]; exact hbig)
          obtain ⟨TOT, HT⟩ : ∃ TOT, Hid (bnP xss = TOT) := ⟨_, Lib.hid rfl⟩
          have Hst := Lib.hid (show mulSt xss 0 [1] = TOT by rw [← HT.out, bnP_run hcd])
          have Hok := Lib.hid (codB_zero hcd).2
          clear hcd
          generalize wr = w1 at *
          have hb1 := hbe
          clear hbe
          have hs1 := hb1.size
          have hown1 := Lib.hid (show Ow (w1.alloc (.cells #[.int .i64 1] 2)) w.heap.size (w1.alloc (.cells #[.int .i64 1] 2)).heap.size (.slice (some ⟨w1.heap.size, 0, none⟩) 1 1) [1] from Ow.of_own (World.ownsRow_lit (base := w.heap.size) (e := 2) (size := 1) w1 #[.int .i64 1] 1 hs1 (by decide) rfl))
          have hbe1 : Below w.heap.size w (w1.alloc (.cells #[.int .i64 1] 2)) := hb1.alloc hs1 _
          clear hb1
          clear hdg Ha hpre
          go_wp2_with fail
          go_loopw [7, 60] (fun o i wr => ∃ (k : Nat) (L : List Int), k ≤ n ∧ i = .int .i64 k ∧ Hid (Ow wr w.heap.size wr.heap.size o L) ∧ Hid (isPoly L = true ∧ 0 < L.length) ∧ Hid (mulSt xss k L = TOT) ∧ Below w.heap.size w wr) (fun _ i _ => n - (intOf i).toNat)
          case atStart => exact ⟨0, [1], Nat.zero_le _, rfl, hown1, Lib.hid (by decide), Hst, hbe1⟩
          case round =>
            clear hown1 hbe1 Hst hs1
            obtain ⟨k, L, hk, rfl, hown, hpol, hst, hbe⟩ := hrel
            by_cases hlt : k < n
            · obtain ⟨ad, rfl, hab, hc⟩ := hrd (by omega)
              have hc1 : wr.cell? (ad.add k) = some (ux us k) := (hbe.cell (by rw [block_of_add]; omega)).trans (hc k hlt)
              have HC := Lib.hid (show ∀ W, Below w.heap.size w W → W.cell? (ad.add k) = some (ux us k) from fun W hW => (hW.cell (by rw [block_of_add]; omega)).trans (hc k hlt))
              have Hek := Lib.hid (He.out k (by rw [Hn.out]; exact hlt))
              obtain ⟨Ak, nk, ck, euk, hnck, hcmk, hrdk⟩ := Hek.out
              rw [euk] at hc1 HC
              have hln := hrdk.len
              obtain ⟨r1, r2, r3⟩ := okB_true.1 (Hok.out k (by rw [Hn.out]; exact hlt))
              have hnk2 : nk = 2 := by omega
              subst hnk2
              obtain ⟨ak, rfl, habk, hck⟩ := hrdk.pos (by omega)
              obtain ⟨a, ha⟩ : ∃ a : Nat, gx (gxx xss k) 0 = (a : Int) := ⟨(gx (gxx xss k) 0).toNat, by omega⟩
              obtain ⟨e0, he0⟩ : ∃ e0, gx (gxx xss k) 1 = e0 := ⟨_, rfl⟩
              have Ha := Lib.hid (show (gx (gxx xss k) 0).toNat = a by omega)
              have ha1 : 1 ≤ a := by omega
              have ha2 : a ≤ 2000 := by omega
              have hcka := hck 0 (by omega)
              have hckb := hck 1 (by omega)
              rw [ha] at hcka
              rw [he0] at hckb r3
              have HC0 := Lib.hid (show ∀ W, Below w.heap.size w W → W.cell? ak = some (.int .i64 (a : Int)) from fun W hW => by have := (hW.cell (p := ak.add 0) (by rw [block_of_add]; omega)).trans hcka; simpa [Addr.add] using this)
              have HC1 := Lib.hid (show ∀ W, Below w.heap.size w W → W.cell? ⟨ak.block, ak.off + 1, none⟩ = some (.int .i64 e0) from fun W hW => by have := (hW.cell (p := ak.add 1) (by rw [block_of_add]; omega)).trans hckb; simpa [Addr.add] using this)
              have hck0 := HC0.out wr hbe
              have hck1 := HC1.out wr hbe
              have Hbin := Lib.hid (binL_isPoly ha1 ha2)
              have Hbl := Lib.hid (show 0 < (binL a).length by rw [binL_len]; omega)
              have He0 := Lib.hid he0
              have hi1 : 0 ≤ (k : Int) ∧ (k : Int) < (n : Int) := by omega
              unfold maxLen at hcmk
              clear hc euk hck hcka hckb hln r1 r2 hrdk ha he0
              have Hin := Lib.hid (show mulIn xss k (e0 - 0).toNat L = TOT by rw [← hst.out, mulSt_in (by rw [Hn.out]; exact hlt), He0.out]; rw [Int.sub_zero])
              clear hst
              go_wp2_with fail
              go_loopw [7, 10] (fun o e wr => ∃ (t : Int) (L : List Int), 0 ≤ t ∧ t ≤ 20 ∧ e = .int .i64 t ∧ Hid (Ow wr w.heap.size wr.heap.size o L) ∧ Hid (isPoly L = true ∧ 0 < L.length) ∧ Hid (mulIn xss k (e0 - t).toNat L = TOT) ∧ Below w.heap.size w wr) (fun _ e _ => (e0 - intOf e).toNat)
              case atStart => exact ⟨0, L, by omega, by omega, rfl, hown, hpol, Hin, hbe⟩
              case round =>
                clear hown hpol Hin hbe hc1 hck0 hck1
                obtain ⟨t, L, ht1, ht2, rfl, hown, hpol, hin, hbe⟩ := hrel
                have hc1 := HC.out wr hbe
                have hck0 := HC0.out wr hbe
                have hck1 := HC1.out wr hbe
                by_cases hp : t < e0
                · obtain ⟨m, hm⟩ : ∃ m : Nat, (e0 - t).toNat = m + 1 := ⟨(e0 - t).toNat - 1, by omega⟩
                  have Hm := Lib.hid (show (e0 - (t + 1)).toNat = m by omega)
                  rw [hm] at hin
                  clear hm
                  go_wp2_with fail
                  refine (binomial_any a _ ha1 ha2).mono ?_
                  rintro e w2 ⟨v2, rfl, hown2, hb2⟩
                  have hs0 := hbe.size
                  have hs2 := hb2.size
                  go_wp2_with fail
                  refine (productOf_any w2.heap.size _ v2 L (binL a) w2 (hown.out.later hb2).is hown2.is (Nat.le_refl _) hpol.out.1 Hbin.out).mono ?_
                  rintro e w3 ⟨v3, rfl, hown3, hb3⟩
                  have hs3 := hb3.size
                  have hbe3 : Below w.heap.size w w3 := (hbe.trans (hb2.mono hs0)).trans (hb3.mono (by omega))
                  have hbr := hbe; have Hown3 := Lib.hid (hown3.wide (show w.heap.size ≤ w2.heap.size by omega) (Nat.le_refl _))
                  clear hbr hown3 hb2 hb3 hown2
                  by_cases hcz : (prodP L (binL a)).2 = 0
                  · have Hn2 := Lib.hid (show mulIn xss k (e0 - (t + 1)).toNat (prodP L (binL a)).1 = TOT by rw [Hm.out, ← mulIn_ok m Ha.out hcz]; exact hin.out)
                    have Hp2 := Lib.hid (step_mul ha1 ha2 hpol.out.1 hpol.out.2 hcz)
                    rw [hcz]
                    clear hin hown hpol hcz hbe
                    go_wp2_with fail
                    go_roundw
                    case rel => exact ⟨t + 1, _, by omega, by omega, by go_num, Hown3, Hp2, Hn2, hbe3⟩
                    case measure => first | (simp [intOf]; done) | (simp [intOf]; omega)
                  · have Hr := Lib.hid (show bnP xss = ([], 3) by rw [HT.out, ← hin.out, mulIn_no m Ha.out hcz])
                    rw [show (prodP L (binL a)).2 = 3 by rcases prodP_code L (binL a) with h | h; exact absurd h hcz; rw [h]]
                    clear hin hown hpol hbe
                    go_wp2_with fail
                    go_ret2
                    exact Li2.nil Hr.out hbe3
                · have hz0 : (e0 - t).toNat = 0 := by omega
                  have Hst2 := Lib.hid (show mulSt xss (k + 1) L = TOT by rw [← hin.out, hz0, mulIn_zero])
                  clear hin hz0
                  go_wp2_with fail
                  go_roundw
                  case rel => exact ⟨k + 1, L, by omega, by go_num, hown, hpol, Hst2, hbe⟩
                  case measure => first | (simp [intOf]; done) | (simp [intOf]; omega)
            · have Hst2 := Lib.hid (show divSt xss 0 L = TOT by rw [← hst.out, mulSt_end (by rw [Hn.out]; omega)])
              clear hst
              go_wp2_with fail
              go_loopw [7, 87] (fun o i wr => ∃ (k : Nat) (L : List Int), k ≤ n ∧ i = .int .i64 k ∧ Hid (Ow wr w.heap.size wr.heap.size o L) ∧ Hid (isPoly L = true ∧ 0 < L.length) ∧ Hid (divSt xss k L = TOT) ∧ Below w.heap.size w wr) (fun _ i _ => n - (intOf i).toNat)
              case atStart => exact ⟨0, L, Nat.zero_le _, rfl, hown, hpol, Hst2, hbe⟩
              case round =>
                clear hown hpol Hst2 hbe
                obtain ⟨k, L, hk, rfl, hown, hpol, hst, hbe⟩ := hrel
                by_cases hlt : k < n
                · obtain ⟨ad, rfl, hab, hc⟩ := hrd (by omega)
                  have hc1 : wr.cell? (ad.add k) = some (ux us k) := (hbe.cell (by rw [block_of_add]; omega)).trans (hc k hlt)
                  have HC := Lib.hid (show ∀ W, Below w.heap.size w W → W.cell? (ad.add k) = some (ux us k) from fun W hW => (hW.cell (by rw [block_of_add]; omega)).trans (hc k hlt))
                  have Hek := Lib.hid (He.out k (by rw [Hn.out]; exact hlt))
                  obtain ⟨Ak, nk, ck, euk, hnck, hcmk, hrdk⟩ := Hek.out
                  rw [euk] at hc1 HC
                  have hln := hrdk.len
                  obtain ⟨r1, r2, r3⟩ := okB_true.1 (Hok.out k (by rw [Hn.out]; exact hlt))
                  have hnk2 : nk = 2 := by omega
                  subst hnk2
                  obtain ⟨ak, rfl, habk, hck⟩ := hrdk.pos (by omega)
                  obtain ⟨a, ha⟩ : ∃ a : Nat, gx (gxx xss k) 0 = (a : Int) := ⟨(gx (gxx xss k) 0).toNat, by omega⟩
                  obtain ⟨e0, he0⟩ : ∃ e0, gx (gxx xss k) 1 = e0 := ⟨_, rfl⟩
                  have Ha := Lib.hid (show (gx (gxx xss k) 0).toNat = a by omega)
                  have ha1 : 1 ≤ a := by omega
                  have ha2 : a ≤ 2000 := by omega
                  have hcka := hck 0 (by omega)
                  have hckb := hck 1 (by omega)
                  rw [ha] at hcka
                  rw [he0] at hckb r3
                  have HC0 := Lib.hid (show ∀ W, Below w.heap.size w W → W.cell? ak = some (.int .i64 (a : Int)) from fun W hW => by have := (hW.cell (p := ak.add 0) (by rw [block_of_add]; omega)).trans hcka; simpa [Addr.add] using this)
                  have HC1 := Lib.hid (show ∀ W, Below w.heap.size w W → W.cell? ⟨ak.block, ak.off + 1, none⟩ = some (.int .i64 e0) from fun W hW => by have := (hW.cell (p := ak.add 1) (by rw [block_of_add]; omega)).trans hckb; simpa [Addr.add] using this)
                  have hck0 := HC0.out wr hbe
                  have hck1 := HC1.out wr hbe
                  have Hbin := Lib.hid (binL_isPoly ha1 ha2)
                  have Hbl := Lib.hid (show 0 < (binL a).length by rw [binL_len]; omega)
                  have He0 := Lib.hid he0
                  have hi1 : 0 ≤ (k : Int) ∧ (k : Int) < (n : Int) := by omega
                  unfold maxLen at hcmk
                  clear hc euk hck hcka hckb hln r1 r2 hrdk ha he0
                  have Hin := Lib.hid (show divIn xss k (-e0).toNat L = TOT by rw [← hst.out, divSt_in (by rw [Hn.out]; exact hlt), He0.out])
                  clear hst
                  go_wp2_with fail
                  go_loopw [7, 15] (fun o e wr => ∃ (t : Int) (L : List Int), -20 ≤ t ∧ t ≤ 20 ∧ e = .int .i64 t ∧ Hid (Ow wr w.heap.size wr.heap.size o L) ∧ Hid (isPoly L = true ∧ 0 < L.length) ∧ Hid (divIn xss k (-t).toNat L = TOT) ∧ Below w.heap.size w wr) (fun _ e _ => (-intOf e).toNat)
                  case atStart => exact ⟨e0, L, by omega, by omega, rfl, hown, hpol, Hin, hbe⟩
                  case round =>
                    clear hown hpol Hin hbe hc1 hck0 hck1
                    obtain ⟨t, L, ht1, ht2, rfl, hown, hpol, hin, hbe⟩ := hrel
                    have hc1 := HC.out wr hbe
                    have hck0 := HC0.out wr hbe
                    have hck1 := HC1.out wr hbe
                    by_cases hp : t < 0
                    · obtain ⟨m, hm⟩ : ∃ m : Nat, (-t).toNat = m + 1 := ⟨(-t).toNat - 1, by omega⟩
                      have Hm := Lib.hid (show (-(t + 1)).toNat = m by omega)
                      rw [hm] at hin
                      clear hm
                      go_wp2_with fail
                      refine (binomial_any a _ ha1 ha2).mono ?_
                      rintro e w2 ⟨v2, rfl, hown2, hb2⟩
                      have hs0 := hbe.size
                      have hs2 := hb2.size
                      go_wp2_with fail
                      refine (quotientOf_any w2.heap.size _ v2 L (binL a) w2 (hown.out.later hb2).is hown2.is (Nat.le_refl _) hpol.out.1 Hbin.out).mono ?_
                      rintro e w3 ⟨v3, rfl, hown3, hb3⟩
                      have hs3 := hb3.size
                      have hbe3 : Below w.heap.size w w3 := (hbe.trans (hb2.mono hs0)).trans (hb3.mono (by omega))
                      have hbr := hbe; have Hown3 := Lib.hid (hown3.wide (show w.heap.size ≤ w2.heap.size by omega) (Nat.le_refl _))
                      clear hbr hown3 hb2 hb3 hown2
                      by_cases hcz : (quoP L (binL a)).2 = 0
                      · have Hn2 := Lib.hid (show divIn xss k (-(t + 1)).toNat (quoP L (binL a)).1 = TOT by rw [Hm.out, ← divIn_ok m Ha.out hcz]; exact hin.out)
                        have Hp2 := Lib.hid (step_div ha1 ha2 hpol.out.1 hpol.out.2 hcz)
                        rw [hcz]
                        clear hin hown hpol hcz hbe
                        go_wp2_with fail
                        go_roundw
                        case rel => exact ⟨t + 1, _, by omega, by omega, by go_num, Hown3, Hp2, Hn2, hbe3⟩
                        case measure => first | (simp [intOf]; done) | (simp [intOf]; omega)
                      · have Hr := Lib.hid (show bnP xss = ([], (quoP L (binL a)).2) by rw [HT.out, ← hin.out, divIn_no m Ha.out hcz])
                        have hcz2 : ((quoP L (binL a)).2 != 0) = true := by rw [bne_iff_ne]; exact hcz
                        clear hin hown hpol hbe
                        go_wp2_with fail
                        go_ret2
                        exact Li2.nil Hr.out hbe3
                    · have hz0 : (-t).toNat = 0 := by omega
                      have Hst2 := Lib.hid (show divSt xss (k + 1) L = TOT by rw [← hin.out, hz0, divIn_zero])
                      clear hin hz0
                      go_wp2_with fail
                      go_roundw
                      case rel => exact ⟨k + 1, L, by omega, by go_num, hown, hpol, Hst2, hbe⟩
                      case measure => first | (simp [intOf]; done) | (simp [intOf]; omega)
                · have Hr := Lib.hid (show bnP xss = (L, 0) by rw [HT.out, ← hst.out, divSt_end (by rw [Hn.out]; omega)])
                  go_wp2_with fail
                  go_ret2
                  exact ⟨_, by rw [Hr.out]; rfl, by rw [Hr.out]; exact hown.out, hbe⟩
end WB
end Go.Proofs.Ytogkblncdpbhnaa
