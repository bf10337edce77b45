/-
  WALKS, CHAPTER 2: products.
  WALKS, CHAPTER 2: the reference's products.
-/
import Derived.Test.YtogkblncdpbhnaaWlkBB
import Derived.Test.YtogkblncdpbhnaaPlC
namespace Go.Proofs.Ytogkblncdpbhnaa
open Go.RowKit
set_option linter.unusedVariables false
namespace WB
open K Pl WA WL
set_option maxHeartbeats 800000 in
theorem plusProduct_any (s a b : Int) (w : World) (hs : -1000000000000 ≤ s ∧ s ≤ 1000000000000) (ha : -1000000000000 ≤ a ∧ a ≤ 1000000000000) (hb : -1000000000000 ≤ b ∧ b ≤ 1000000000000) :
    Calls Try.prog 55 #[.int .i64 s, .int .i64 a, .int .i64 b] w fun e w' => e = .returned (.tuple #[.int .i64 (ppV s a b), .bool (ppB s a b)]) ∧ w = w' := by
  by_cases h0 : a = 0 ∨ b = 0
  · have Hr := Lib.hid (pp_zero (s := s) h0)
    by_cases h1 : a = 0
    · have he : (a == 0) = true := by simp [h1]
      clear h0
      go_enter Try.func55, Try.ntmps55
      go_wp2
      go_ret2
      exact ⟨by rw [Hr.out.1, Hr.out.2]; rfl, rfl⟩
    · have he : (a == 0) = false := by simp [h1]
      have he2 : (b == 0) = true := by rcases h0 with h0 | h0 <;> simp_all
      clear h0
      go_enter Try.func55, Try.ntmps55
      go_wp2
      go_ret2
      exact ⟨by rw [Hr.out.1, Hr.out.2]; rfl, rfl⟩
  · have he : (a == 0) = false := by simp; omega
    have he2 : (b == 0) = false := by simp; omega
    have hb1 := absI_ge_one (show b ≠ 0 by omega)
    have hx := absI_bd a (by omega) (by omega)
    have hy := absI_bd b (by omega) (by omega)
    by_cases hbig : 2000000000000 / absI b < absI a
    · have Hr := Lib.hid (pp_big (s := s) h0 hbig)
      clear h0
      go_enter Try.func55, Try.ntmps55
      go_wp2_with (go_at_call 30; refine (abs_any _ _ (by omega) (by omega)).mono ?_; rintro e w' ⟨rfl, rfl⟩)
      go_ret2
      exact ⟨by rw [Hr.out.1, Hr.out.2]; rfl, rfl⟩
    · have Hr := Lib.hid (pp_go (s := s) h0 hbig)
      have hm := mul_small (a := a) (b := b) (by omega) hbig
      clear h0
      go_enter Try.func55, Try.ntmps55
      go_wp2_with (first | (go_at_call 30; refine (abs_any _ _ (by omega) (by omega)).mono ?_; rintro e w' ⟨rfl, rfl⟩) | (go_at_call 51; refine (isCoefficient_any _ _).mono ?_; rintro e w' ⟨rfl, rfl⟩))
      go_ret2
      exact ⟨by rw [Hr.out.1, Hr.out.2]; rfl, rfl⟩
/-- One product more. -/
theorem mul_round {w wr : World} {lo g N cap j : Nat} {out : List Int} (u : Int) (hown : wr.ownsRow lo 2 1 (.slice (some ⟨g, 0, none⟩) N cap) N (out.map (Value.int .i64))) (hj : j < N) :
    wr.cell? ⟨g, j, none⟩ = some (.int .i64 (gx out j)) ∧ wr.frozen? ⟨g, j, none⟩ = false ∧ (wr.setCell ⟨g, j, none⟩ (.int .i64 u)).ownsRow lo 2 1 (.slice (some ⟨g, 0, none⟩) N cap) N ((out.set j u).map (Value.int .i64)) := by
  have hl : out.length = N := by have := hown.1; simpa using this
  refine ⟨?_, hown.frozenAt j, ?_⟩
  · rw [hown.cellAt j (by omega), map_gx _ j (by omega)]
  · have e := (hown.stored j (.int .i64 u)).1
    rw [← List.map_set] at e; exact e
set_option maxHeartbeats 1600000 in
theorem productOf_any (B : Nat) (v v2 : Value) (xs ys : List Int) (w : World) (h : Is w B v xs) (h2 : Is w B v2 ys) (hB : B ≤ w.heap.size) (hp : isPoly xs = true) (hq : isPoly ys = true) :
    Calls Try.prog 35 #[v, v2] w (Li2 (prodP xs ys) w) := by
  have Hcx := Lib.hid (fun j => isPoly_gx hp j)
  have Hcy := Lib.hid (fun j => isPoly_gx hq j)
  obtain ⟨A, n, c, rfl, hnc, hcm, hrd⟩ := h
  obtain ⟨A2, m, c2, rfl, hmc, hcm2, hrd2⟩ := h2
  have Hlen := Lib.hid hrd.len
  have Hlen2 := Lib.hid hrd2.len
  have hn' : n ≤ 2001 := by rw [← hrd.len]; exact (isPoly_true.1 hp).1
  have hm' : m ≤ 2001 := by rw [← hrd2.len]; exact (isPoly_true.1 hq).1
  unfold maxLen at hcm hcm2
  clear hp hq
  by_cases h0 : n = 0 ∨ m = 0
  · have Hr := Lib.hid (prodP_zero (p := xs) (q := ys) (by rw [Hlen.out, Hlen2.out]; exact h0))
    have hown0 : (w.alloc (.cells #[] 2)).ownsRow w.heap.size 2 1 (.slice (some ⟨w.heap.size, 0, none⟩) 0 0) 0 (([] : List Int).map (Value.int .i64)) := World.ownsRow_lit w #[] 0 (Nat.le_refl _) (by decide) rfl
    by_cases h1 : n = 0
    · have he : ((n : Int) == 0) = true := by simp; omega
      clear h0 h1
      go_enter Try.func35, Try.ntmps35
      go_wp2
      go_ret2
      exact ⟨_, by rw [Hr.out]; rfl, by rw [Hr.out]; exact Ow.of_own hown0, (Below.refl _ _).alloc (Nat.le_refl _) _⟩
    · have he : ((n : Int) == 0) = false := by simp; omega
      have he2 : ((m : Int) == 0) = true := by simp; omega
      clear h0 h1
      go_enter Try.func35, Try.ntmps35
      go_wp2
      go_ret2
      exact ⟨_, by rw [Hr.out]; rfl, by rw [Hr.out]; exact Ow.of_own hown0, (Below.refl _ _).alloc (Nat.le_refl _) _⟩
  · have he : ((n : Int) == 0) = false := by simp; omega
    have he2 : ((m : Int) == 0) = false := by simp; omega
    by_cases hbig : 2001 < n + m - 1
    · have Hr := Lib.hid (prodP_long (p := xs) (q := ys) (by rw [Hlen.out, Hlen2.out]; exact h0) (by rw [Hlen.out, Hlen2.out]; exact hbig))
      have hb2 : (2001 : Int) < (n : Int) + (m : Int) - 1 := by omega
      clear h0 hbig
      go_enter Try.func35, Try.ntmps35
      go_wp2
      go_ret2
      exact Li2.nil Hr.out (Below.refl _ _)
    · obtain ⟨N, hN⟩ : ∃ N, N = n + m - 1 := ⟨_, rfl⟩
      have HN := Lib.hid (show (n : Int) + (m : Int) - 1 = (N : Int) by omega)
      obtain ⟨TOT, HT⟩ : ∃ TOT, Hid (prOut xs ys m 0 (List.replicate N 0) = TOT) := ⟨_, Lib.hid rfl⟩
      have Hr := Lib.hid (show prodP xs ys = resP TOT by
        rw [prodP_run (by rw [Hlen.out, Hlen2.out]; exact h0) (by rw [Hlen.out, Hlen2.out]; exact hbig), Hlen.out, Hlen2.out, ← hN, HT.out])
      have hN' : N ≤ 2001 := by omega
      have hNn : N + 1 = n + m := by omega
      have HNn := Lib.hid hNn
      have hb2 : ¬ (2001 : Int) < (n : Int) + (m : Int) - 1 := by omega
      have hn1 : 1 ≤ n := by omega
      have hm1 : 1 ≤ m := by omega
      clear h0 hbig hN hNn
      obtain ⟨i0, hi, hz0, hz1, hz2⟩ := info_parts info64
      have Hi := Lib.hid hi; have Hz0 := Lib.hid hz0; have Hz1 := Lib.hid hz1; have Hz2 := Lib.hid hz2
      clear hi hz0 hz1 hz2
      go_enter Try.func35, Try.ntmps35
      go_wp2_with (at_make; refine wpList_make_full _ rfl _ _ 24 rfl w.heap.size 2 i0 (.int .i64 0) 1 Try.underlying24 Hi.out Hz0.out Hz1.out _ _ _ _ N rfl rfl HN.out HN.out ?b ?c ?d ?_)
      case b => rw [Hz2.out]; omega
      case c => unfold maxLen; omega
      try (case d => simp)
      intro w1 hown hgrow
      have hbw : Below w.heap.size w w1 := (Below.refl _ _).grown hgrow (Nat.le_refl _) (by simp)
      have hown0 := Lib.hid (show w1.ownsRow w.heap.size 2 1 (.slice (some ⟨w.heap.size, 0, none⟩) N N) N ((List.replicate N (0 : Int)).map (Value.int .i64)) by
        rw [List.map_replicate]
        have e : (madeCells (Value.int IntKind.i64 0).cells (N * 1)).toList = List.replicate N (Value.int .i64 0) := by
          rw [Nat.mul_one]; exact toList_madeCells_one _ N
        rw [← e, Nat.mul_one]; exact hown)
      clear hown hgrow he he2 hb2
      go_wp2
      go_loopw [38] (fun i wr => ∃ (k r : Nat) (out : List Int), k ≤ m ∧ i = .int .i64 k ∧ Hid (k + r = m) ∧ Hid (wr.ownsRow w.heap.size 2 1 (.slice (some ⟨w.heap.size, 0, none⟩) N N) N (out.map (Value.int .i64))) ∧ Hid (prOut xs ys r k out = TOT) ∧ Hid (∀ j, isCoef (gx out j) = true) ∧ Below w.heap.size w wr) (fun i _ => m - (intOf i).toNat)
      case atStart => exact ⟨0, m, _, Nat.zero_le _, rfl, Lib.hid (by omega), hown0, HT, Lib.hid (coef_zeros N), hbw⟩
      case round =>
        clear hown0 hbw
        obtain ⟨k, r, out, hk, rfl, hr, hown, ht, hco, hbe⟩ := hrel
        by_cases hlt : k < m
        · obtain ⟨r', rfl⟩ : ∃ r', r = r' + 1 := ⟨r - 1, by have := hr.out; omega⟩
          obtain ⟨ad, rfl, hab, hc⟩ := hrd2.pos (by omega)
          have hc1 : wr.cell? (ad.add k) = some (.int .i64 (gx ys k)) := ((hbe.mono hB).cell (by rw [block_of_add]; omega)).trans (hc k hlt)
          have Hc := Lib.hid hc
          clear hc
          by_cases hz : gx ys k = 0
          · have hze : (gx ys k == 0) = true := by simp [hz]
            have Ht := Lib.hid (show prOut xs ys r' (k + 1) out = TOT by rw [← ht.out, prOut_zero r' out hz])
            clear hz
            go_wp2
            go_roundw
            case rel => exact ⟨k + 1, r', out, by omega, by go_num, Lib.hid (by have := hr.out; omega), hown, Ht, hco, hbe⟩
            case measure => first | (simp [intOf]; done) | (simp [intOf]; omega)
          · have hze : (gx ys k == 0) = false := by simp [hz]
            have Ht := Lib.hid (show (prIn (gx ys k) k xs n 0 out).bind (prOut xs ys r' (k + 1)) = TOT by rw [← ht.out, prOut_go r' out hz, Hlen.out])
            have hcy := Hcy.out k
            clear hz ht
            go_wp2
            go_loopw [47] (fun i wr => ∃ (i' s : Nat) (out : List Int), i' ≤ n ∧ i = .int .i64 i' ∧ Hid (i' + s = n) ∧ Hid (wr.ownsRow w.heap.size 2 1 (.slice (some ⟨w.heap.size, 0, none⟩) N N) N (out.map (Value.int .i64))) ∧ Hid ((prIn (gx ys k) k xs s i' out).bind (prOut xs ys r' (k + 1)) = TOT) ∧ Hid (∀ j, isCoef (gx out j) = true) ∧ Below w.heap.size w wr) (fun i _ => n - (intOf i).toNat)
            case atStart => exact ⟨0, n, out, Nat.zero_le _, rfl, Lib.hid (by omega), hown, Ht, hco, hbe⟩
            case round =>
              clear hown Ht hco hbe hc1
              obtain ⟨i, s, out, hi, rfl, hs, hown, ht, hco, hbe⟩ := hrel
              by_cases hin : i < n
              · obtain ⟨s', rfl⟩ : ∃ s', s = s' + 1 := ⟨s - 1, by have := hs.out; omega⟩
                obtain ⟨ad2, rfl, hab2, hc2⟩ := hrd.pos (by omega)
                have hc3 : wr.cell? (ad2.add i) = some (.int .i64 (gx xs i)) := ((hbe.mono hB).cell (by rw [block_of_add]; omega)).trans (hc2 i hin)
                have hikN : i + k < N := by have := HNn.out; omega
                obtain ⟨hcx, hfr, hst⟩ := mul_round (w := w) (ppV (gx out (i + k)) (gx xs i) (gx ys k)) hown.out hikN
                have hik : 0 ≤ (i : Int) + (k : Int) ∧ (i : Int) + (k : Int) < (N : Int) := by omega
                have hbo := isCoef_true.1 (hco.out (i + k))
                have hbx := Hcx.out i
                have Hst := Lib.hid hst
                have Hc2 := Lib.hid hc2
                clear hc2 hst hown
                cases hR : ppB (gx out (i + k)) (gx xs i) (gx ys k)
                · have hN0 : TOT = none := by rw [← ht.out, prIn_none s' out hR]; rfl
                  have Hr2 := Lib.hid (show prodP xs ys = ([], 3) by rw [Hr.out, hN0]; rfl)
                  clear hN0
                  go_wp2_with fail
                  refine (plusProduct_any _ _ _ _ hbo hbx hcy).mono ?_
                  rintro e w' ⟨rfl, rfl⟩
                  rw [hR]
                  go_wp2_with fail
                  go_ret2
                  exact Li2.nil Hr2.out hbe
                · have Ht2 := Lib.hid (show (prIn (gx ys k) k xs s' (i + 1) (out.set (i + k) (ppV (gx out (i + k)) (gx xs i) (gx ys k)))).bind (prOut xs ys r' (k + 1)) = TOT by rw [← ht.out, prIn_some s' out hR])
                  have Hco2 := Lib.hid (coef_set (q := i + k) hco.out (pp_coef (hco.out (i + k)) hR))
                  have hbe2 : Below w.heap.size w (wr.setCell ⟨w.heap.size, i + k, none⟩ (.int .i64 (ppV (gx out (i + k)) (gx xs i) (gx ys k)))) := hbe.setCell (Nat.le_refl _) _
                  clear hbe ht hco
                  go_wp2_with fail
                  refine (plusProduct_any _ _ _ _ hbo hbx hcy).mono ?_
                  rintro e w' ⟨rfl, rfl⟩
                  rw [hR]
                  go_wp2_with fail
                  go_roundw
                  case rel => exact ⟨i + 1, s', _, by omega, by go_num, Lib.hid (by have := hs.out; omega), Hst, Ht2, Hco2, hbe2⟩
                  case measure => first | (simp [intOf]; done) | (simp [intOf]; omega)
              · obtain rfl : s = 0 := by have := hs.out; omega
                have Ht2 := Lib.hid (show prOut xs ys r' (k + 1) out = TOT by rw [← ht.out]; rfl)
                clear ht
                go_wp2
                go_roundw
                case rel => exact ⟨k + 1, r', out, by omega, by go_num, Lib.hid (by have := hr.out; omega), hown, Ht2, hco, hbe⟩
                case measure => first | (simp [intOf]; done) | (simp [intOf]; omega)
        · obtain rfl : r = 0 := by have := hr.out; omega
          have Hr2 := Lib.hid (show prodP xs ys = (out, 0) by rw [Hr.out, ← ht.out]; rfl)
          go_wp2
          go_ret2
          exact ⟨_, by rw [Hr2.out]; rfl, by rw [Hr2.out]; exact Ow.of_own hown.out, hbe⟩
theorem MultiplyPolynomials_any (B : Nat) (v v2 : Value) (xs ys : List Int) (w : World) (h : Is w B v xs) (h2 : Is w B v2 ys) (hB : B ≤ w.heap.size) : Calls Try.prog 10 #[v, v2] w (Li2 (mulP xs ys) w) := by
  have Hp := Lib.hid h
  have Hq := Lib.hid h2
  clear h h2
  cases hP : isPoly xs
  · have Hr := Lib.hid (show mulP xs ys = ([], 1) by unfold mulP; rw [hP]; rfl)
    go_enter Try.func10, Try.ntmps10
    go_wp2_with fail
    refine (IsPolynomial_any B v xs _ Hp.out hB).mono ?_
    rintro e w' ⟨rfl, rfl⟩
    rw [hP]
    go_wp2_with fail
    go_ret2
    exact Li2.nil Hr.out (Below.refl _ _)
  · cases hQ : isPoly ys
    · have Hr := Lib.hid (show mulP xs ys = ([], 1) by unfold mulP; rw [hP, hQ]; rfl)
      go_enter Try.func10, Try.ntmps10
      go_wp2_with fail
      refine (IsPolynomial_any B v xs _ Hp.out hB).mono ?_
      rintro e w' ⟨rfl, rfl⟩
      rw [hP]
      go_wp2_with fail
      refine (IsPolynomial_any B v2 ys _ Hq.out hB).mono ?_
      rintro e w' ⟨rfl, rfl⟩
      rw [hQ]
      go_wp2_with fail
      go_ret2
      exact Li2.nil Hr.out (Below.refl _ _)
    · have Hr := Lib.hid (show mulP xs ys = prodP xs ys by unfold mulP; rw [hP, hQ]; rfl)
      have HP := Lib.hid hP
      have HQ := Lib.hid hQ
      go_enter Try.func10, Try.ntmps10
      go_wp2_with fail
      refine (IsPolynomial_any B v xs _ Hp.out hB).mono ?_
      rintro e w' ⟨rfl, rfl⟩
      rw [hP]
      go_wp2_with fail
      refine (IsPolynomial_any B v2 ys _ Hq.out hB).mono ?_
      rintro e w' ⟨rfl, rfl⟩
      rw [hQ]
      clear hP hQ
      go_wp2_with fail
      refine (productOf_any B v v2 xs ys _ Hp.out Hq.out hB HP.out HQ.out).mono ?_
      rintro e w1 ⟨v1, rfl, own1, hb1⟩
      go_wp2_with fail
      go_ret2
      exact ⟨v1, by rw [Hr.out]; rfl, by rw [Hr.out]; exact own1, hb1⟩
end WB
end Go.Proofs.Ytogkblncdpbhnaa
namespace Go.Proofs.Ytogkblncdpbhnaa
open Go.RowKit
set_option linter.unusedVariables false
namespace WB
open K Pl WA WL
def okb (r : List Int × Int) : Bool := r.2 == 0
/-- A list of numbers, and whether there is one. -/
def Li2b (r : List Int × Int) (w : World) (e : Ending) (w' : World) : Prop := ∃ v, e = .returned (.tuple #[v, .bool (okb r)]) ∧ Ow w' w.heap.size w'.heap.size v r.1 ∧ Below w.heap.size w w'
theorem Li2b.nil {w w' : World} {r : List Int × Int} (hr : r = ([], 3)) (h : Below w.heap.size w w') : Li2b r w (.returned (.tuple #[.slice none 0 0, .bool false])) w' := by
  subst hr
  exact ⟨_, rfl, Ow.nil _ _ _, h⟩
set_option maxRecDepth 8192 in
set_option maxHeartbeats 4000000 in
theorem l02Product_any (B : Nat) (v v2 : Value) (xs ys : List Int) (w : World) (h : Is w B v xs) (h2 : Is w B v2 ys) (hB : B ≤ w.heap.size) (hp : isPoly xs = true) (hq : isPoly ys = true) :
    Calls Try.prog 43 #[v, v2] w (Li2b (prodP xs ys) w) := by
  have Hcx := Lib.hid (fun j => isPoly_gx hp j)
  have Hcy := Lib.hid (fun j => isPoly_gx hq j)
  obtain ⟨A, n, c, rfl, hnc, hcm, hrd⟩ := h
  obtain ⟨A2, m, c2, rfl, hmc, hcm2, hrd2⟩ := h2
  have Hlen := Lib.hid hrd.len
  have Hlen2 := Lib.hid hrd2.len
  have hn' : n ≤ 2001 := by rw [← hrd.len]; exact (isPoly_true.1 hp).1
  have hm' : m ≤ 2001 := by rw [← hrd2.len]; exact (isPoly_true.1 hq).1
  unfold maxLen at hcm hcm2
  clear hp hq
  by_cases h0 : n = 0 ∨ m = 0
  · have Hr := Lib.hid (prodP_zero (p := xs) (q := ys) (by rw [Hlen.out, Hlen2.out]; exact h0))
    have hown0 : (w.alloc (.cells #[] 2)).ownsRow w.heap.size 2 1 (.slice (some ⟨w.heap.size, 0, none⟩) 0 0) 0 (([] : List Int).map (Value.int .i64)) := World.ownsRow_lit w #[] 0 (Nat.le_refl _) (by decide) rfl
    by_cases h1 : n = 0
    · have he : ((n : Int) == 0) = true := by simp; omega
      clear h0 h1
      go_enter Try.func43, Try.ntmps43
      go_wp2
      go_ret2
      exact ⟨_, by rw [Hr.out]; rfl, by rw [Hr.out]; exact Ow.of_own hown0, (Below.refl _ _).alloc (Nat.le_refl _) _⟩
    · have he : ((n : Int) == 0) = false := by simp; omega
      have he2 : ((m : Int) == 0) = true := by simp; omega
      clear h0 h1
      go_enter Try.func43, Try.ntmps43
      go_wp2
      go_ret2
      exact ⟨_, by rw [Hr.out]; rfl, by rw [Hr.out]; exact Ow.of_own hown0, (Below.refl _ _).alloc (Nat.le_refl _) _⟩
  · have he : ((n : Int) == 0) = false := by simp; omega
    have he2 : ((m : Int) == 0) = false := by simp; omega
    by_cases hbig : 2001 < n + m - 1
    · have Hr := Lib.hid (prodP_long (p := xs) (q := ys) (by rw [Hlen.out, Hlen2.out]; exact h0) (by rw [Hlen.out, Hlen2.out]; exact hbig))
      have hb2 : (2000 : Int) < (n : Int) + (m : Int) - 2 := by omega
      clear h0 hbig
      go_enter Try.func43, Try.ntmps43
      go_wp2
      go_ret2
      exact Li2b.nil Hr.out (Below.refl _ _)
    · obtain ⟨N, hN⟩ : ∃ N, N = n + m - 1 := ⟨_, rfl⟩
      have HN := Lib.hid (show (n : Int) + (m : Int) - 1 = (N : Int) by omega)
      obtain ⟨TOT, HT⟩ : ∃ TOT, Hid (prOut xs ys m 0 (List.replicate N 0) = TOT) := ⟨_, Lib.hid rfl⟩
      have Hr := Lib.hid (show prodP xs ys = resP TOT by
        rw [prodP_run (by rw [Hlen.out, Hlen2.out]; exact h0) (by rw [Hlen.out, Hlen2.out]; exact hbig), Hlen.out, Hlen2.out, ← hN, HT.out])
      have hN' : N ≤ 2001 := by omega
      have hNn : N + 1 = n + m := by omega
      have HNn := Lib.hid hNn
      have hb2 : ¬ (2000 : Int) < (n : Int) + (m : Int) - 2 := by omega
      have hn1 : 1 ≤ n := by omega
      have hm1 : 1 ≤ m := by omega
      clear h0 hbig hN hNn
      obtain ⟨i0, hi, hz0, hz1, hz2⟩ := info_parts info64
      have Hi := Lib.hid hi; have Hz0 := Lib.hid hz0; have Hz1 := Lib.hid hz1; have Hz2 := Lib.hid hz2
      clear hi hz0 hz1 hz2
      go_enter Try.func43, Try.ntmps43
      go_wp2_with (at_make; refine wpList_make_full _ rfl _ _ 24 rfl w.heap.size 2 i0 (.int .i64 0) 1 Try.underlying24 Hi.out Hz0.out Hz1.out _ _ _ _ N rfl rfl HN.out HN.out ?b ?c ?d ?_)
      case b => rw [Hz2.out]; omega
      case c => unfold maxLen; omega
      try (case d => simp)
      intro w1 hown hgrow
      have hbw : Below w.heap.size w w1 := (Below.refl _ _).grown hgrow (Nat.le_refl _) (by simp)
      have hown0 := Lib.hid (show w1.ownsRow w.heap.size 2 1 (.slice (some ⟨w.heap.size, 0, none⟩) N N) N ((List.replicate N (0 : Int)).map (Value.int .i64)) by
        rw [List.map_replicate]
        have e : (madeCells (Value.int IntKind.i64 0).cells (N * 1)).toList = List.replicate N (Value.int .i64 0) := by
          rw [Nat.mul_one]; exact toList_madeCells_one _ N
        rw [← e, Nat.mul_one]; exact hown)
      clear hown hgrow he he2 hb2
      go_wp2
      go_loopw [7] (fun i wr => ∃ (k r : Nat) (out : List Int), k ≤ m ∧ i = .int .i64 k ∧ Hid (k + r = m) ∧ Hid (wr.ownsRow w.heap.size 2 1 (.slice (some ⟨w.heap.size, 0, none⟩) N N) N (out.map (Value.int .i64))) ∧ Hid (prOut xs ys r k out = TOT) ∧ Hid (∀ j, isCoef (gx out j) = true) ∧ Below w.heap.size w wr) (fun i _ => m - (intOf i).toNat)
      case atStart => exact ⟨0, m, _, Nat.zero_le _, rfl, Lib.hid (by omega), hown0, HT, Lib.hid (coef_zeros N), hbw⟩
      case round =>
        clear hown0 hbw
        obtain ⟨k, r, out, hk, rfl, hr, hown, ht, hco, hbe⟩ := hrel
        by_cases hlt : k < m
        · obtain ⟨r', rfl⟩ : ∃ r', r = r' + 1 := ⟨r - 1, by have := hr.out; omega⟩
          obtain ⟨ad, rfl, hab, hc⟩ := hrd2.pos (by omega)
          have Hc := Lib.hid hc
          clear hc
          by_cases hz : gx ys k = 0
          · have hc1 : wr.cell? (ad.add k) = some (.int .i64 (gx ys k)) := ((hbe.mono hB).cell (by rw [block_of_add]; omega)).trans (Hc.out k hlt)
            have hze : (gx ys k != 0) = false := by simp [hz]
            have Ht := Lib.hid (show prOut xs ys r' (k + 1) out = TOT by rw [← ht.out, prOut_zero r' out hz])
            clear hz ht
            go_wp2
            refine wp_loop_rounds 1 ?_
            rw [rounds_succ]
            go_wp2
            go_roundw
            case rel => exact ⟨k + 1, r', out, by omega, by go_num, Lib.hid (by have := hr.out; omega), hown, Ht, hco, hbe⟩
            case measure => first | (simp [intOf]; done) | (simp [intOf]; omega)
          · have hze : (gx ys k != 0) = true := by simp [hz]
            have Ht := Lib.hid (show (prIn (gx ys k) k xs n 0 out).bind (prOut xs ys r' (k + 1)) = TOT by rw [← ht.out, prOut_go r' out hz, Hlen.out])
            have hcy := Hcy.out k
            have Hz := Lib.hid hz
            have hya := absI_ge_one hz
            have hyb := absI_bd (gx ys k) (by omega) (by omega)
            have hmx2 : ∀ (W : World) (ts : Array TypeId) (t : TypeId), (Builtin.max_ ts t #[.int .i64 (gx ys k), .int .i64 (-gx ys k)]).run Try.prog W = .ok (.int .i64 (absI (gx ys k))) W := by
              intro W ts t
              rw [run_max_int2, show (if -gx ys k > gx ys k then -gx ys k else gx ys k) = absI (gx ys k) by unfold absI; split <;> split <;> omega]
            clear hz ht
            go_wp2
            go_loopw [8] (fun i wr => ∃ (i' s : Nat) (out : List Int), i' ≤ n ∧ i = .int .i64 i' ∧ Hid (i' + s = n) ∧ Hid (wr.ownsRow w.heap.size 2 1 (.slice (some ⟨w.heap.size, 0, none⟩) N N) N (out.map (Value.int .i64))) ∧ Hid ((prIn (gx ys k) k xs s i' out).bind (prOut xs ys r' (k + 1)) = TOT) ∧ Hid (∀ j, isCoef (gx out j) = true) ∧ Below w.heap.size w wr) (fun i _ => n - (intOf i).toNat)
            case atStart => exact ⟨0, n, out, Nat.zero_le _, rfl, Lib.hid (by omega), hown, Ht, hco, hbe⟩
            case round =>
              clear hown Ht hco hbe
              obtain ⟨i, s, out, hi, rfl, hs, hown, ht, hco, hbe⟩ := hrel
              by_cases hin : i < n
              · obtain ⟨s', rfl⟩ : ∃ s', s = s' + 1 := ⟨s - 1, by have := hs.out; omega⟩
                obtain ⟨ad2, rfl, hab2, hc2⟩ := hrd.pos (by omega)
                have hc1 : wr.cell? (ad.add k) = some (.int .i64 (gx ys k)) := ((hbe.mono hB).cell (by rw [block_of_add]; omega)).trans (Hc.out k hlt)
                have hc3 : wr.cell? (ad2.add i) = some (.int .i64 (gx xs i)) := ((hbe.mono hB).cell (by rw [block_of_add]; omega)).trans (hc2 i hin)
                have hikN : i + k < N := by have := HNn.out; omega
                obtain ⟨hcx, hfr, hst⟩ := mul_round (w := w) (gx out (i + k) + gx xs i * gx ys k) hown.out hikN
                have hik : 0 ≤ (i : Int) + (k : Int) ∧ (i : Int) + (k : Int) < (N : Int) := by omega
                have hin2 : 0 ≤ (i : Int) ∧ (i : Int) < (n : Int) := by omega
                have hkm2 : 0 ≤ (k : Int) ∧ (k : Int) < (m : Int) := by omega
                have hbo := isCoef_true.1 (hco.out (i + k))
                have hbx := Hcx.out i
                have hxb := absI_bd (gx xs i) (by omega) (by omega)
                have hmx : ∀ (W : World) (ts : Array TypeId) (t : TypeId), (Builtin.max_ ts t #[.int .i64 (gx xs i), .int .i64 (-gx xs i)]).run Try.prog W = .ok (.int .i64 (absI (gx xs i))) W := by
                  intro W ts t
                  rw [run_max_int2, show (if -gx xs i > gx xs i then -gx xs i else gx xs i) = absI (gx xs i) by unfold absI; split <;> split <;> omega]
                have Hst := Lib.hid hst
                have Hc2 := Lib.hid hc2
                clear hc2 hst hown
                by_cases hbig : 2000000000000 / absI (gx ys k) < absI (gx xs i)
                · have hR := pp_spec_big (s := gx out (i + k)) Hz.out hbig
                  have hN0 : TOT = none := by rw [← ht.out, prIn_none s' out hR]; rfl
                  have Hr2 := Lib.hid (show prodP xs ys = ([], 3) by rw [Hr.out, hN0]; rfl)
                  clear hN0 hR
                  go_wp2
                  go_quiet (fail)
                  go_wp2
                  go_ret2
                  exact Li2b.nil Hr2.out (below_drewN hbe _)
                · have hpp := pp_spec (s := gx out (i + k)) Hz.out (hco.out (i + k)) hbig
                  have hms := mul_small (a := gx xs i) Hz.out hbig
                  have hbe2 := Lib.hid (show Below w.heap.size w (wr.setCell ⟨w.heap.size, i + k, none⟩ (.int .i64 (gx out (i + k) + gx xs i * gx ys k))) from hbe.setCell (Nat.le_refl _) _)
                  cases hR : isCoef (gx out (i + k) + gx xs i * gx ys k)
                  · have hN0 : TOT = none := by rw [← ht.out, prIn_none s' out (by rw [hpp.1]; exact hR)]; rfl
                    have Hr2 := Lib.hid (show prodP xs ys = ([], 3) by rw [Hr.out, hN0]; rfl)
                    have hR' : inR (gx out (i + k) + gx xs i * gx ys k) (-1000000000000) 1000000000000 = false := hR
                    clear hN0 hpp hR
                    go_wp2
                    go_quiet (fail)
                    go_wp2
                    go_region
                    go_wp2_with (go_at_call 36; refine (l01In_any _ _ _ _).mono ?_; rintro e w' ⟨rfl, rfl⟩)
                    go_ret2
                    exact Li2b.nil Hr2.out ⟨hbe2.out.os, hbe2.out.tape, hbe2.out.output, hbe2.out.size, hbe2.out.block⟩
                  · have Ht2 := Lib.hid (show (prIn (gx ys k) k xs s' (i + 1) (out.set (i + k) (gx out (i + k) + gx xs i * gx ys k))).bind (prOut xs ys r' (k + 1)) = TOT by rw [← ht.out, prIn_some s' out (by rw [hpp.1]; exact hR), hpp.2])
                    have Hco2 := Lib.hid (coef_set (q := i + k) hco.out hR)
                    have hR' : inR (gx out (i + k) + gx xs i * gx ys k) (-1000000000000) 1000000000000 = true := hR
                    clear hbe ht hco hpp hR
                    go_wp2
                    go_quiet (fail)
                    go_wp2
                    go_region
                    go_wp2_with (go_at_call 36; refine (l01In_any _ _ _ _).mono ?_; rintro e w' ⟨rfl, rfl⟩)
                    go_roundw
                    case rel => exact ⟨i + 1, s', _, by omega, by go_num, Lib.hid (by have := hs.out; omega), Lib.hid Hst.out, Ht2, Hco2, ⟨hbe2.out.os, hbe2.out.tape, hbe2.out.output, hbe2.out.size, hbe2.out.block⟩⟩
                    case measure => first | (simp [intOf]; done) | (simp [intOf]; omega)
              · obtain rfl : s = 0 := by have := hs.out; omega
                have Ht2 := Lib.hid (show prOut xs ys r' (k + 1) out = TOT by rw [← ht.out]; rfl)
                clear ht
                go_wp2
                go_roundw
                case rel => exact ⟨k + 1, r', out, by omega, by go_num, Lib.hid (by have := hr.out; omega), hown, Ht2, hco, hbe⟩
                case measure => first | (simp [intOf]; done) | (simp [intOf]; omega)
        · obtain rfl : r = 0 := by have := hr.out; omega
          have Hr2 := Lib.hid (show prodP xs ys = (out, 0) by rw [Hr.out, ← ht.out]; rfl)
          go_wp2
          go_ret2
          exact ⟨_, by rw [Hr2.out]; rfl, by rw [Hr2.out]; exact Ow.of_own hown.out, hbe⟩
theorem prodP_form (p q : List Int) : okb (prodP p q) = true ∧ (prodP p q) = ((prodP p q).1, 0) ∨ okb (prodP p q) = false ∧ prodP p q = ([], 3) := by
  by_cases h : p.length = 0 ∨ q.length = 0
  · rw [prodP_zero h]; exact .inl ⟨rfl, rfl⟩
  · by_cases h2 : 2001 < p.length + q.length - 1
    · rw [prodP_long h h2]; exact .inr ⟨rfl, rfl⟩
    · rw [prodP_run h h2]
      cases prOut p q q.length 0 (List.replicate (p.length + q.length - 1) 0) with
      | none => exact .inr ⟨rfl, rfl⟩
      | some o => exact .inl ⟨rfl, rfl⟩
end WB
end Go.Proofs.Ytogkblncdpbhnaa
