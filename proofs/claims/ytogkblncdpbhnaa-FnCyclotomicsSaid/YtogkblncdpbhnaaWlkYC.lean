/-
  WALKS, CHAPTER 2: the program's cyclotomic polynomials.
  WALKS, CHAPTER 2: CyclotomicPolynomial by the program.
-/
import Derived.Test.YtogkblncdpbhnaaWlkY5
import Derived.Test.YtogkblncdpbhnaaWlkY2
import Derived.Test.YtogkblncdpbhnaaPlOz
import Derived.Deep.CutBlock
import Derived.Test.YtogkblncdpbhnaaWlkY4
namespace Go.Proofs.Ytogkblncdpbhnaa
open Go.RowKit
set_option linter.unusedVariables false
namespace WY
open K Pl WA WL WB
/-- The row that is made. -/
structure Q1 (w0 wr : World) (g N : Nat) (out : List Int) : Prop where
  own : wr.ownsRow w0.heap.size 2 1 (.slice (some ⟨g, 0, none⟩) N N) N (out.map (Value.int .i64))
  be : Below w0.heap.size w0 wr
section
variable {w0 wr : World} {g N : Nat} {out : List Int}
theorem Q1.set (h : Q1 w0 wr g N out) (j : Nat) (u : Int) : Q1 w0 (wr.setCell ⟨g, j, none⟩ (.int .i64 u)) g N (out.set j u) where
  own := by have e := (h.own.stored j (.int .i64 u)).1; rw [← List.map_set] at e; exact e
  be := h.be.setCell (p := ⟨g, j, none⟩) (h.own.lt g rfl).1 _
theorem Q1.dr (h : Q1 w0 wr g N out) : Q1 w0 wr.drew g N out := ⟨h.own, below_drewN h.be 1⟩
theorem Q1.later (h : Q1 w0 wr g N out) {w' : World} (hb : Below wr.heap.size wr w') : Q1 w0 w' g N out := ⟨own_later h.own hb, h.be.trans (hb.mono h.be.size)⟩
theorem Q1.len (h : Q1 w0 wr g N out) : out.length = N := by have := h.own.1; simpa using this
theorem Q1.cell (h : Q1 w0 wr g N out) {j : Nat} (hj : j < N) : wr.cell? ⟨g, j, none⟩ = some (.int .i64 (gx out j)) ∧ wr.frozen? ⟨g, j, none⟩ = false := by
  have hl := h.len
  exact ⟨by rw [h.own.cellAt j (by omega), map_gx _ j (by omega)], h.own.frozenAt j⟩
end
theorem w64 {a b u : Int} (h : Pl.wr (a - b) = u) : wrap64 (a - b) = u := by rw [← h]; unfold Pl.wr; rw [IntKind.wrap_i64]; unfold wrap64; omega
theorem w64p {a b u : Int} (h : Pl.wr (a + b) = u) : wrap64 (a + b) = u := by rw [← h]; unfold Pl.wr; rw [IntKind.wrap_i64]; unfold wrap64; omega
theorem cyclotomic_one (w : World) : Calls Try.prog 29 #[.int .i64 1] w (Li1 (phi 1) w) := by
  have hown0 := Lib.hid (World.ownsRow_lit (base := w.heap.size) (e := 2) (size := 1) w #[.int .i64 (-1), .int .i64 1] 2 (Nat.le_refl _) (by decide) rfl)
  have hbe0 := Lib.hid (show Below w.heap.size w (w.alloc (.cells #[.int .i64 (-1), .int .i64 1] 2)) from (Below.refl _ _).alloc (Nat.le_refl _) _)
  go_enter Try.func29, Try.ntmps29
  go_wp2_with fail
  go_ret
  exact ⟨_, rfl, by rw [phi_one]; exact Ow.of_own hown0.out, hbe0.out⟩
set_option maxHeartbeats 8000000 in
theorem cyclotomic_any (n0 : Nat) (w : World) (h1 : 1 ≤ n0) (h2 : n0 ≤ 2000) : Calls Try.prog 29 #[.int .i64 n0] w (Li1 (phi n0) w) := by
  by_cases hn1 : n0 = 1
  · subst hn1; exact cyclotomic_one w
  have t1 : ((n0 : Int) == 1) = false := by simp; omega
  have htn := totN_le n0
  obtain ⟨t, ht⟩ : ∃ t, totN n0 = t := ⟨_, rfl⟩
  have HN := Lib.hid (show (t : Int) + 1 = ((t + 1 : Nat) : Int) by omega)
  obtain ⟨N, hN⟩ : ∃ N, N = t + 1 := ⟨_, rfl⟩
  rw [← hN] at HN
  have HNt := Lib.hid (show N = totN n0 + 1 by omega)
  have hN2 : N ≤ 2001 := by omega
  have hN1 : 1 ≤ N := by omega
  obtain ⟨i0, hi, hz0, hz1, hz2⟩ := info_parts info64
  have Hi := Lib.hid hi; have Hz0 := Lib.hid hz0; have Hz1 := Lib.hid hz1; have Hz2 := Lib.hid hz2
  have ht' := Lib.hid ht
  have ht2 : t ≤ 2000 := by omega
  clear hi hz0 hz1 hz2 hN ht htn
  go_enter Try.func29, Try.ntmps29
  go_wp2_with fail
  refine (totient_any n0 _ h1 h2).mono ?_
  rintro e w1 ⟨rfl, hb1⟩
  rw [ht'.out]
  have hs1 := hb1.size
  go_wp2_with (at_make; refine wpList_make_full _ rfl _ _ 24 rfl w1.heap.size 2 i0 (.int .i64 0) 1 Try.underlying24 Hi.out Hz0.out Hz1.out _ _ _ _ N rfl rfl HN.out HN.out ?b ?c ?d ?_)
  case b => rw [Hz2.out]; omega
  case c => unfold maxLen; omega
  try (case d => simp)
  intro w2 hown hgrow
  have hbw : Below w.heap.size w w2 := hb1.grown hgrow hs1 (by simp)
  have hown0 : w2.ownsRow w.heap.size 2 1 (.slice (some ⟨w1.heap.size, 0, none⟩) N N) N ((List.replicate N (0 : Int)).map (Value.int .i64)) := by
    rw [List.map_replicate]
    have e : (madeCells (Value.int IntKind.i64 0).cells (N * 1)).toList = List.replicate N (Value.int .i64 0) := by
      rw [Nat.mul_one]; exact toList_madeCells_one _ N
    rw [← e, Nat.mul_one]; exact own_base hown hs1
  have q0 : Q1 w w2 w1.heap.size N (List.replicate N 0) := ⟨hown0, hbw⟩
  generalize w1.heap.size = g at *
  obtain ⟨hc1, hf1⟩ := q0.cell (j := 0) (by omega)
  have Q0 := Lib.hid (q0.set 0 1)
  have C0 := Lib.hid (Cy.start n0 N hN1)
  have hi0 : (0 : Int) < (N : Int) := by omega
  clear q0 hown0 hown hgrow hbw
  go_wp2_with fail
  go_loopw [5] (fun i wr => ∃ (d k : Nat) (out : List Int), d ≤ n0 + 1 ∧ Hid (d = k + 1) ∧ i = .int .i64 (d : Int) ∧ Hid (Cy n0 k N out) ∧ Hid (Q1 w wr g N out)) (fun i _ => n0 + 1 - (intOf i).toNat)
  case atStart => exact ⟨1, 0, _, by omega, Lib.hid rfl, rfl, C0, Q0⟩
  case round =>
    clear C0 Q0 hc1 hf1
    obtain ⟨d, k, out, hk, Hd, rfl, HC, HQ⟩ := hrel
    have hd1 : 1 ≤ d := by have := Hd.out; omega
    by_cases hlt : d ≤ n0
    · by_cases hm : n0 % d = 0
      · have hm0 : (n0 : Int).tmod (d : Int) = 0 := by rw [← Int.ofNat_tmod, hm]; rfl
        have hq : (n0 : Int).tdiv (d : Int) = ((n0 / d : Nat) : Int) := (Int.ofNat_tdiv n0 d).symm
        have hd0 : (d : Int) ≠ 0 := by omega
        have hq1 : 1 ≤ n0 / d := Nat.div_pos hlt (by omega)
        have hq2 : n0 / d ≤ n0 := Nat.div_le_self n0 d
        have HM := Lib.hid (show n0 % (k + 1) = 0 by rw [← Hd.out]; exact hm)
        have HL := Lib.hid (mobL_le (facG 50 2 (n0 / d)))
        obtain ⟨c, Hc⟩ : ∃ c, Hid (mobC (n0 / d) = c) := ⟨_, Lib.hid rfl⟩
        have Hc' := Lib.hid (show mobC (n0 / (k + 1)) = c by rw [← Hd.out]; exact Hc.out)
        have hc3 : c = 0 ∨ c = 1 ∨ c = 2 := by
          have h5 : mobC (n0 / d) ≤ 2 := HL.out
          rw [Hc.out] at h5; omega
        obtain ⟨q, Hq⟩ : ∃ q, Hid (n0 / d = q) := ⟨_, Lib.hid rfl⟩
        rw [Hq.out] at hq hq1 hq2 Hc
        clear hm HL
        rcases hc3 with rfl | rfl | rfl
        · have HC2 := Lib.hid (HC.out.skip (.inr Hc'.out))
          clear HC
          go_wp2_with fail
          refine (mobius_any q _ hq1 (by omega)).mono ?_
          rintro e w3 ⟨rfl, hb3⟩
          rw [Hc.out]
          have HQ2 := Lib.hid (HQ.out.later hb3)
          clear HQ hb3
          go_wp2_with fail
          go_roundw
          case rel => exact ⟨d + 1, k + 1, out, by omega, Lib.hid (by have := Hd.out; omega), by go_num, HC2, HQ2⟩
          case measure => first | (simp [intOf]; done) | (simp [intOf]; omega)
        · have HC2 := Lib.hid HC.out.mul
          clear HC
          go_wp2_with fail
          refine (mobius_any q _ hq1 (by omega)).mono ?_
          rintro e w3 ⟨rfl, hb3⟩
          rw [Hc.out]
          have HQ2 := Lib.hid (HQ.out.later hb3)
          clear HQ hb3
          go_wp2_with fail
          go_loopw [6] (fun i wr => ∃ (z : Int) (i' : Nat) (out : List Int), i = .int .i64 z ∧ Hid (z + 1 = i') ∧ i' ≤ N ∧ Hid (CyM n0 k N i' out) ∧ Hid (Q1 w wr g N out)) (fun i _ => (intOf i + 1).toNat)
          case atStart => exact ⟨_, N, out, rfl, Lib.hid (by omega), Nat.le_refl _, HC2, HQ2⟩
          case round =>
            clear HC2 HQ2
            obtain ⟨z, i', out, rfl, hz, hi', HC, HQ⟩ := hrel
            by_cases hin : (d : Int) ≤ z
            · obtain ⟨i, rfl⟩ : ∃ i : Nat, i' = i + 1 := ⟨i' - 1, by have := hz.out; omega⟩
              obtain rfl : z = (i : Int) := by have := hz.out; omega
              have hdi : d ≤ i := by omega
              obtain ⟨hc1, hf1⟩ := HQ.out.cell (j := i) (by omega)
              have hc2 := (HQ.out.cell (j := i - d) (by omega)).1
              have hix : 0 ≤ (i : Int) ∧ (i : Int) < (N : Int) := by omega
              have hix2 : (i : Int) - (d : Int) = ((i - d : Nat) : Int) := by omega
              have hix3 : 0 ≤ ((i - d : Nat) : Int) ∧ ((i - d : Nat) : Int) < (N : Int) := by omega
              obtain ⟨u, Hu⟩ : ∃ u, Hid (Pl.wr (gx out i - gx out (i - d)) = u) := ⟨_, Lib.hid rfl⟩
              have Hw := Lib.hid (w64 Hu.out)
              have HC3 := Lib.hid (show CyM n0 k N i (out.set i u) by
                have := HC.out.step (by have := Hd.out; omega) (by omega)
                rw [← Hd.out, Hu.out] at this; exact this)
              have HQ3 := Lib.hid (HQ.out.set i u)
              clear HC HQ
              generalize i - d = jd at *
              go_wp2_with fail
              go_region
              go_wp2_with fail
              go_roundw
              case rel => exact ⟨_, i, _, rfl, Lib.hid (by omega), by omega, HC3, Lib.hid (by rw [Hw.out]; exact HQ3.out.dr)⟩
              case measure => first | (simp [intOf]; done) | (simp [intOf]; omega)
            · have HC3 := Lib.hid (HC.out.done (.inl (by have := hz.out; have := Hd.out; omega)) HM.out Hc'.out)
              clear HC
              go_wp2_with fail
              go_roundw
              case rel => exact ⟨d + 1, k + 1, out, by omega, Lib.hid (by have := Hd.out; omega), by go_num, HC3, HQ⟩
              case measure => first | (simp [intOf]; done) | (simp [intOf]; omega)
        · have HC2 := Lib.hid HC.out.div
          clear HC
          go_wp2_with fail
          refine (mobius_any q _ hq1 (by omega)).mono ?_
          rintro e w3 ⟨rfl, hb3⟩
          rw [Hc.out]
          have HQ2 := Lib.hid (HQ.out.later hb3)
          clear HQ hb3
          go_wp2_with fail
          go_loopw [7] (fun i wr => ∃ (i' : Nat) (out : List Int), i = .int .i64 i' ∧ d ≤ i' ∧ i' ≤ 2001 ∧ Hid (CyD n0 k N i' out) ∧ Hid (Q1 w wr g N out)) (fun i _ => N - (intOf i).toNat)
          case atStart => exact ⟨d, out, rfl, Nat.le_refl _, by omega, Lib.hid (by rw [Hd.out]; exact HC2.out), HQ2⟩
          case round =>
            clear HC2 HQ2
            obtain ⟨i, out, rfl, hi', hi2, HC, HQ⟩ := hrel
            by_cases hin : i < N
            · obtain ⟨hc1, hf1⟩ := HQ.out.cell (j := i) (by omega)
              have hc2 := (HQ.out.cell (j := i - d) (by omega)).1
              have hix : 0 ≤ (i : Int) ∧ (i : Int) < (N : Int) := by omega
              have hix2 : (i : Int) - (d : Int) = ((i - d : Nat) : Int) := by omega
              have hix3 : 0 ≤ ((i - d : Nat) : Int) ∧ ((i - d : Nat) : Int) < (N : Int) := by omega
              obtain ⟨u, Hu⟩ : ∃ u, Hid (Pl.wr (gx out i + gx out (i - d)) = u) := ⟨_, Lib.hid rfl⟩
              have Hw := Lib.hid (w64p Hu.out)
              have HC3 := Lib.hid (show CyD n0 k N (i + 1) (out.set i u) by
                have := HC.out.step (by have := Hd.out; omega) hin
                rw [← Hd.out, Hu.out] at this; exact this)
              have HQ3 := Lib.hid (HQ.out.set i u)
              clear HC HQ
              generalize i - d = jd at *
              go_wp2_with fail
              go_region
              go_wp2_with fail
              go_roundw
              case rel => exact ⟨i + 1, _, by go_num, by omega, by omega, HC3, Lib.hid (by rw [Hw.out]; exact HQ3.out.dr)⟩
              case measure => first | (simp [intOf]; done) | (simp [intOf]; omega)
            · have HC3 := Lib.hid (HC.out.done (by omega) HM.out Hc'.out)
              clear HC
              go_wp2_with fail
              go_roundw
              case rel => exact ⟨d + 1, k + 1, out, by omega, Lib.hid (by have := Hd.out; omega), by go_num, HC3, HQ⟩
              case measure => first | (simp [intOf]; done) | (simp [intOf]; omega)
      · have hm0 : ((n0 : Int) % (d : Int) != 0) = true := by
          rw [bne_iff_ne]
          intro e
          have e2 : ((n0 % d : Nat) : Int) = 0 := by rw [Int.natCast_emod]; exact e
          exact hm (by omega)
        have hd0 : (d : Int) ≠ 0 := by omega
        have HC2 := Lib.hid (HC.out.skip (.inl (by rw [← Hd.out]; exact hm)))
        clear hm HC
        go_wp2_with fail
        go_roundw
        case rel => exact ⟨d + 1, k + 1, out, by omega, Lib.hid (by have := Hd.out; omega), by go_num, HC2, HQ⟩
        case measure => first | (simp [intOf]; done) | (simp [intOf]; omega)
    · have Hr := Lib.hid (show out = phi n0 by
        have h5 := HC.out
        rw [show k = n0 by have := Hd.out; omega] at h5
        exact h5.phi (chk_all n0 (by omega) h2).1 (by omega) HNt.out)
      clear HC
      go_wp2_with fail
      go_ret
      exact ⟨_, rfl, by rw [← Hr.out]; exact Ow.of_own HQ.out.own, HQ.out.be⟩
end WY
end Go.Proofs.Ytogkblncdpbhnaa
namespace Go.Proofs.Ytogkblncdpbhnaa
open Go.RowKit
set_option linter.unusedVariables false
namespace WY
open K Pl WA WL WB
theorem CyclotomicPolynomial_any (z : Int) (w : World) : Calls Try.prog 9 #[.int .i64 z] w (Li2 (cycF z) w) := by
  cases hz : inR z 1 2000
  · have Hr := Lib.hid (show cycF z = ([], 2) by unfold cycF; rw [hz]; rfl)
    go_enter Try.func9, Try.ntmps9
    go_wp2_with fail
    refine (inRange_any _ _ _ _).mono ?_
    rintro e w' ⟨rfl, rfl⟩
    rw [hz]
    go_wp2_with fail
    go_ret2
    exact Li2.nil Hr.out (Below.refl _ _)
  · have Hr := Lib.hid (show cycF z = (phi z.toNat, 0) by unfold cycF; rw [hz]; rfl)
    have hb := inR_true.1 hz
    obtain ⟨n, rfl⟩ := Int.eq_ofNat_of_zero_le (show 0 ≤ z by omega)
    rw [Int.toNat_natCast] at Hr
    go_enter Try.func9, Try.ntmps9
    go_wp2_with fail
    refine (inRange_any _ _ _ _).mono ?_
    rintro e w' ⟨rfl, rfl⟩
    rw [hz]
    go_wp2_with fail
    refine (cyclotomic_any n _ (by omega) (by omega)).mono ?_
    rintro e w1 ⟨v, rfl, own, hb1⟩
    have Own := Lib.hid own
    clear own
    go_wp2_with fail
    go_ret2
    exact ⟨v, by rw [Hr.out]; rfl, by rw [Hr.out]; exact Own.out, hb1⟩
end WY
end Go.Proofs.Ytogkblncdpbhnaa
