/-
  WALKS, CHAPTER 4: long sequences.
-/
import Derived.Test.YtcnoaclijhcckaaWlkD5
namespace Go.Proofs.Ytcnoaclijhcckaa
open Go.RowKit
set_option linter.unusedVariables false
namespace WD
open K Pl WA WC
/-- What a function that returns a list and a code leaves; the list's capacity may be cut. -/
def Li2C (r : List Int × Int) (w : World) (e : Ending) (w' : World) : Prop := ∃ v, e = .returned (.tuple #[v, .int .i64 r.2]) ∧ OwC w' w.heap.size w'.heap.size v r.1 ∧ Below w.heap.size w w'
theorem Li2C.nil {w w' : World} {c : Int} {r : List Int × Int} (hr : r = ([], c)) (h : Below w.heap.size w w') : Li2C r w (.returned (.tuple #[.slice none 0 0, .int .i64 c])) w' := by
  subst hr
  exact ⟨_, rfl, OwC.of_ow (Ow.nil _ _ _), h⟩
theorem seqB_rows {xs : List Int} (h : isBr xs = true) : (reps (rws xs (xs.length - 1)) = [] ∧ seqB xs = [1]) ∨ (reps (rws xs (xs.length - 1)) ≠ [] ∧ seqB xs = reps (rws xs (xs.length - 1))) := by
  have h0 := (isBr_true.1 h).1
  by_cases h1 : xs.length = 1
  · left; unfold seqB; rw [if_pos h1, h1]; exact ⟨rfl, rfl⟩
  · right
    have h3 := sqn_ne h (xs.length - 1) (by omega) (by omega)
    unfold seqB; rw [if_neg h1]; exact ⟨h3, rfl⟩
set_option maxHeartbeats 4000000 in
theorem l04Full_any (B : Nat) (v : Value) (xs : List Int) (mo : Nat) (w : World) (h : Is w B v xs) (hB : B ≤ w.heap.size) (hR : isBr xs = true) (hmo : mo ≤ 400) :
    Calls Try.prog 32 #[.agg #[v], .int .i64 (mo : Int)] w fun e w' => ∃ v', e = .returned v' ∧ Ow w' w.heap.size w'.heap.size v' (seqB xs ++ ones mo) ∧ Below w.heap.size w w' := by
  have Hh := Lib.hid h
  have HR := Lib.hid hR
  have hb1 : ∀ o, Below w.heap.size w (w.alloc o) := fun o => (Below.refl _ _).alloc (Nat.le_refl _) o
  have Hsr := Lib.hid (seqB_rows hR)
  have Hok := Lib.hid (rowsOk hR)
  have hfew := rows_few hR
  have hsl := seqB_len hR
  have Hrs := Lib.hid (show (reps (rws xs (xs.length - 1))).length ≤ 1000000 by
    rcases seqB_rows hR with ⟨e, _⟩ | ⟨_, e⟩
    · rw [e]; simp
    · rw [← e]; exact hsl.2)
  obtain ⟨S, HS⟩ : ∃ S, Hid (rws xs (xs.length - 1) = S) := ⟨_, Lib.hid rfl⟩
  rw [HS.out] at Hsr Hok hfew Hrs
  obtain ⟨n, Hn⟩ : ∃ n, Hid (S.length = n) := ⟨_, Lib.hid rfl⟩
  rw [Hn.out] at hfew
  obtain ⟨A, n0, c, rfl, hnc, hcm, hrd⟩ := h
  clear hrd hR
  go_enter Try.func32, Try.ntmps32
  go_wp2_with fail
  refine (l04Runs_any B _ xs _ (Hh.out.below ((hb1 _).mono hB)) (by simp; omega) HR.out).mono ?_
  rintro e w1 ⟨v1, rfl, ⟨us, hU⟩, hb⟩
  rw [HS.out] at hU
  have hw1 := (hb1 _).trans (hb.mono (by simp))
  have hs1 := hw1.size
  obtain ⟨A1, c1, rfl, hnc1, hcm1⟩ := own_shape hU.row
  rw [Hn.out] at hnc1 hU ⊢
  have HU := Lib.hid hU
  have hown0 := World.ownsRow_lit (base := w1.heap.size) (e := 2) (size := 1) w1 #[] 0 (Nat.le_refl _) (by decide) rfl
  have hbe0 : ∀ o, Below w1.heap.size w1 (w1.alloc o) := fun o => (Below.refl _ _).alloc (Nat.le_refl _) o
  clear hU hb hb1
  go_wp2
  go_loopw [6, 7] (fun u i wr => ∃ (k m : Nat) (A6 : Option Addr) (c6 : Nat), k ≤ n ∧ i = .int .i64 k ∧ u = .slice A6 m c6 ∧ m ≤ 1000000 ∧ m ≤ c6 ∧ Hid (m = (reps (S.take k)).length) ∧ Hid (wr.ownsRow w1.heap.size 2 1 (.slice A6 m c6) m ((reps (S.take k)).map (Value.int .i64))) ∧ Below w1.heap.size w1 wr) (fun _ i _ => n - (intOf i).toNat)
  case atStart => exact ⟨0, 0, _, 0, Nat.zero_le _, rfl, rfl, by omega, by omega, Lib.hid rfl, Lib.hid hown0, hbe0 _⟩
  case round =>
    clear hown0 hbe0
    obtain ⟨k, m, A6, c6, hk, rfl, rfl, hm9, hmc, hm, hown, hbe⟩ := hrel
    have hs := hbe.size
    by_cases hlt : k < n
    · obtain ⟨q, r, esr, hq0, hq1, hr0, hr1⟩ := Hok.out (gxx S k) (gxx_mem S k (by rw [Hn.out]; exact hlt))
      obtain ⟨qn, rfl⟩ := Int.eq_ofNat_of_zero_le hq0
      obtain ⟨g0, g, c2, rfl, hco, hc2, hc2m, hq, hr, _, hgh, _⟩ := own_pair HU.out Hn.out hlt esr
      have Hrep := Lib.hid (rep_pair esr)
      have Hts := Lib.hid (reps_take_succ S k (by rw [Hn.out]; exact hlt))
      have hg0h : g0 < w1.heap.size := World.block_lt_of_cell? w1 ⟨g0, k, none⟩ hco
      have hco2 : wr.cell? ⟨g0, k, none⟩ = some (.slice (some ⟨g, 0, none⟩) 2 c2) := (hbe.cell (p := ⟨g0, k, none⟩) hg0h).trans hco
      have hq2 : wr.cell? ⟨g, 0, none⟩ = some (.int .i64 (qn : Int)) := (hbe.cell (p := ⟨g, 0, none⟩) hgh).trans hq
      have hi1 : 0 ≤ (k : Int) ∧ (k : Int) < (n : Int) := by omega
      have hi2 : (0 : Int) < 2 ∧ (1 : Int) < 2 := by omega
      have Hmx := Lib.hid (show (reps (S.take k) ++ List.replicate qn r).length ≤ 1000000 by
        have h1 := reps_take_len S (k + 1)
        rw [Hts.out, Hrep.out] at h1
        exact Nat.le_trans h1 Hrs.out)
      have hqn : qn ≤ 1000000 := by omega
      clear esr hq0
      go_wp2
      go_loopw [6, 8] (fun u i wr => ∃ (j t m : Nat) (A6 : Option Addr) (c6 : Nat), i = .int .i64 (t : Int) ∧ u = .slice A6 m c6 ∧ t ≤ 1000000 ∧ m ≤ 1000000 ∧ m ≤ c6 ∧ Hid (j + t = qn) ∧ Hid (m = (reps (S.take k) ++ List.replicate j r).length) ∧ Hid (wr.ownsRow w1.heap.size 2 1 (.slice A6 m c6) m ((reps (S.take k) ++ List.replicate j r).map (Value.int .i64))) ∧ Below w1.heap.size w1 wr) (fun _ i _ => (intOf i).toNat)
      case atStart => exact ⟨0, qn, m, A6, c6, rfl, rfl, hqn, hm9, hmc, Lib.hid (by omega), Lib.hid (by simpa using hm.out), Lib.hid (by simpa using hown.out), hbe⟩
      case round =>
        clear hm hown hbe hco2 hq2 hs hm9 hmc
        obtain ⟨j, t, m2, A7, c7, rfl, rfl, ht9, hm9, hmc, hjt, hm, hown, hbe⟩ := hrel
        have hs := hbe.size
        by_cases hlt2 : 0 < t
        · obtain ⟨t2, rfl⟩ : ∃ t2, t = t2 + 1 := ⟨t - 1, by omega⟩
          have hlt3 : (0 : Int) < ((t2 + 1 : Nat) : Int) := by omega
          have hco2 : wr.cell? ⟨g0, k, none⟩ = some (.slice (some ⟨g, 0, none⟩) 2 c2) := (hbe.cell (p := ⟨g0, k, none⟩) hg0h).trans hco
          have hr2 : wr.cell? ⟨g, 1, none⟩ = some (.int .i64 r) := (hbe.cell (p := ⟨g, 1, none⟩) hgh).trans hr
          have hmj : m2 < 1000000 := by
            have h1 := hm.out
            have h2 := Hmx.out
            have h3 := hjt.out
            simp at h1 h2; omega
          have Hrs2 := Lib.hid (show reps (S.take k) ++ List.replicate (j + 1) r = reps (S.take k) ++ List.replicate j r ++ [r] by rw [List.replicate_succ']; simp)
          go_wp2_with (at_builtin; refine wp_append_i rfl _ _ rfl w1.heap.size _ m2 _ rfl (hown.out.alloc _) wr.heap.size r 1 rfl (by simp) (by omega) (by simp; omega) ?_)
          intro g' cap' w2 hown2 hgrow hat hlt4
          have hcap : m2 + 1 ≤ cap' := by
            obtain ⟨A', c', e, h1, h2⟩ := own_shape hown2
            cases e; exact h1
          have hbe2 : Below w1.heap.size w1 w2 := (hbe.alloc (by omega) _).grown hgrow (by simp; omega) (fun k' e => (hown.out.lt k' e).1)
          have Hown2 := Lib.hid (show w2.ownsRow w1.heap.size 2 1 (.slice (some ⟨g', 0, none⟩) (m2 + 1) cap') (m2 + 1) ((reps (S.take k) ++ List.replicate (j + 1) r).map (Value.int .i64)) by rw [Hrs2.out]; simpa using hown2)
          have Hm2 := Lib.hid (show m2 + 1 = (reps (S.take k) ++ List.replicate (j + 1) r).length by rw [Hrs2.out, List.length_append, ← hm.out]; rfl)
          clear hown hown2 hgrow hat hbe hm hco2 hr2
          go_wp2
          go_roundw
          case rel => exact ⟨j + 1, t2, m2 + 1, _, _, by first | (congr 1; done) | (congr 1; omega), rfl, by omega, by omega, hcap, Lib.hid (by have := hjt.out; omega), Hm2, Hown2, hbe2⟩
          case measure => first | (simp [intOf]; done) | (simp [intOf]; omega)
        · obtain rfl : t = 0 := by omega
          have hlt3 : ¬ (0 : Int) < ((0 : Nat) : Int) := by omega
          have He := Lib.hid (show reps (S.take (k + 1)) = reps (S.take k) ++ List.replicate j r by rw [Hts.out, Hrep.out, show qn = j by have := hjt.out; omega])
          go_wp2
          go_roundw
          case rel => exact ⟨k + 1, m2, A7, c7, by omega, by go_num, rfl, hm9, hmc, Lib.hid (by rw [He.out]; exact hm.out), Lib.hid (by rw [He.out]; exact hown.out), hbe⟩
          case measure => first | (simp [intOf]; done) | (simp [intOf]; omega)
    · obtain rfl : k = n := by omega
      have He := Lib.hid (show S.take k = S from List.take_of_length_le (Nat.le_of_eq Hn.out))
      by_cases hm0 : m = 0
      · have hz : ((m : Int) == 0) = true := by simp; omega
        have He0 := Lib.hid (show seqB xs = [1] by
          rcases Hsr.out with ⟨_, e⟩ | ⟨e, _⟩
          · exact e
          · exact absurd (List.eq_nil_of_length_eq_zero (by have := hm.out; rw [He.out] at this; omega)) e)
        subst hm0
        have hown' := hown.out
        rw [He.out, show reps S = [] from List.eq_nil_of_length_eq_zero (by have := hm.out; rw [He.out] at this; omega)] at hown'
        go_wp2_with (at_builtin; refine wp_append_i rfl _ _ rfl w1.heap.size _ 0 [] rfl (hown'.alloc _) wr.heap.size 1 1 rfl (by simp) (by omega) (by simp; omega) ?_)
        intro g' cap' w2 hown2 hgrow hat hlt3
        have hcap9 : 0 + 1 ≤ cap' := by
          obtain ⟨A', c', e, h1, h2⟩ := own_shape hown2
          cases e; exact h1
        have hbe9 : Below w1.heap.size w1 w2 := (hbe.alloc (by omega) _).grown hgrow (by simp; omega) (fun k' e => (hown'.lt k' e).1)
        have Hown9 := Lib.hid (show w2.ownsRow w1.heap.size 2 1 (.slice (some ⟨g', 0, none⟩) (0 + 1) cap') (0 + 1) ((seqB xs ++ ones 0).map (Value.int .i64)) by rw [He0.out]; simpa [ones] using hown2)
        have Hm9 := Lib.hid (show 0 + 1 = (seqB xs ++ ones 0).length by rw [He0.out]; rfl)
        simp only [Nat.zero_add] at Hown9 hcap9 Hm9
        clear hown hown' hown2 hgrow hat hbe hm hmc hm9
        go_wp2
        go_loopw [1, 6] (fun t u wr => ∃ (j t' m : Nat) (A6 : Option Addr) (c6 : Nat), t = .int .i64 (t' : Int) ∧ u = .slice A6 m c6 ∧ t' ≤ 400 ∧ m ≤ 2000000 ∧ m ≤ c6 ∧ Hid (j + t' = mo) ∧ Hid (m = (seqB xs ++ ones j).length) ∧ Hid (wr.ownsRow w1.heap.size 2 1 (.slice A6 m c6) m ((seqB xs ++ ones j).map (Value.int .i64))) ∧ Below w1.heap.size w1 wr) (fun t _ _ => (intOf t).toNat)
        case atStart => exact ⟨0, mo, _, _, _, rfl, rfl, hmo, by omega, hcap9, Lib.hid (by omega), Hm9, Hown9, hbe9⟩
        case round =>
          clear Hown9 hbe9 Hm9 hcap9
          obtain ⟨j, t', m, A6, c6, rfl, rfl, ht4, hm9, hmc, hjt, hm, hown, hbe⟩ := hrel
          have hs := hbe.size
          by_cases hlt : 0 < t'
          · obtain ⟨t2, rfl⟩ : ∃ t2, t' = t2 + 1 := ⟨t' - 1, by omega⟩
            have hlt2 : (0 : Int) < ((t2 + 1 : Nat) : Int) := by omega
            have Hon := Lib.hid (show seqB xs ++ ones (j + 1) = seqB xs ++ ones j ++ [1] by rw [ones_succ, List.append_assoc])
            have hmj : m ≤ 1500000 := by have := hm.out; have := hsl.2; have := hjt.out; simp [ones] at *; omega
            go_wp2_with (at_builtin; refine wp_append_i rfl _ _ rfl w1.heap.size _ m _ rfl (hown.out.alloc _) wr.heap.size 1 1 rfl (by simp) (by omega) (by simp; omega) ?_)
            intro g' cap' w2 hown2 hgrow hat hlt3
            have hcap : m + 1 ≤ cap' := by
              obtain ⟨A', c', e, h1, h2⟩ := own_shape hown2
              cases e; exact h1
            have hbe2 : Below w1.heap.size w1 w2 := (hbe.alloc (by omega) _).grown hgrow (by simp; omega) (fun k' e => (hown.out.lt k' e).1)
            have Hown2 := Lib.hid (show w2.ownsRow w1.heap.size 2 1 (.slice (some ⟨g', 0, none⟩) (m + 1) cap') (m + 1) ((seqB xs ++ ones (j + 1)).map (Value.int .i64)) by rw [Hon.out]; simpa using hown2)
            have Hm2 := Lib.hid (show m + 1 = (seqB xs ++ ones (j + 1)).length by rw [Hon.out, List.length_append, ← hm.out]; rfl)
            clear hown hown2 hgrow hat hbe hm
            go_wp2
            go_roundw
            case rel => exact ⟨j + 1, t2, m + 1, _, _, by first | (congr 1; done) | (congr 1; omega), rfl, by omega, by omega, hcap, Lib.hid (by have := hjt.out; omega), Hm2, Hown2, hbe2⟩
            case measure => first | (simp [intOf]; done) | (simp [intOf]; omega)
          · obtain rfl : t' = 0 := by omega
            have Hj := Lib.hid (show j = mo by have := hjt.out; omega)
            have hlt2 : ¬ (0 : Int) < ((0 : Nat) : Int) := by omega
            go_wp2
            go_ret
            exact ⟨_, rfl, by rw [← Hj.out]; exact (Ow.of_own hown.out).wide hs1 (Nat.le_refl _), hw1.trans (hbe.mono hs1)⟩
      · have hz : ((m : Int) == 0) = false := by simp; omega
        have He0 := Lib.hid (show seqB xs = reps S by
          rcases Hsr.out with ⟨e, _⟩ | ⟨_, e⟩
          · have := hm.out; rw [He.out, e] at this; exact absurd this hm0
          · exact e)
        have hcap9 := hmc
        have hbe9 := hbe
        have Hown9 := Lib.hid (show wr.ownsRow w1.heap.size 2 1 (.slice A6 m c6) m ((seqB xs ++ ones 0).map (Value.int .i64)) by rw [He0.out]; have h := hown.out; rw [He.out] at h; simpa [ones] using h)
        have Hm9 := Lib.hid (show m = (seqB xs ++ ones 0).length by rw [He0.out]; have h := hm.out; rw [He.out] at h; simpa [ones] using h)
        clear hown hbe hm hm0 hmc
        go_wp2
        go_loopw [1, 6] (fun t u wr => ∃ (j t' m : Nat) (A6 : Option Addr) (c6 : Nat), t = .int .i64 (t' : Int) ∧ u = .slice A6 m c6 ∧ t' ≤ 400 ∧ m ≤ 2000000 ∧ m ≤ c6 ∧ Hid (j + t' = mo) ∧ Hid (m = (seqB xs ++ ones j).length) ∧ Hid (wr.ownsRow w1.heap.size 2 1 (.slice A6 m c6) m ((seqB xs ++ ones j).map (Value.int .i64))) ∧ Below w1.heap.size w1 wr) (fun t _ _ => (intOf t).toNat)
        case atStart => exact ⟨0, mo, _, _, _, rfl, rfl, hmo, by omega, hcap9, Lib.hid (by omega), Hm9, Hown9, hbe9⟩
        case round =>
          clear Hown9 hbe9 Hm9 hcap9
          obtain ⟨j, t', m, A6, c6, rfl, rfl, ht4, hm9, hmc, hjt, hm, hown, hbe⟩ := hrel
          have hs := hbe.size
          by_cases hlt : 0 < t'
          · obtain ⟨t2, rfl⟩ : ∃ t2, t' = t2 + 1 := ⟨t' - 1, by omega⟩
            have hlt2 : (0 : Int) < ((t2 + 1 : Nat) : Int) := by omega
            have Hon := Lib.hid (show seqB xs ++ ones (j + 1) = seqB xs ++ ones j ++ [1] by rw [ones_succ, List.append_assoc])
            have hmj : m ≤ 1500000 := by have := hm.out; have := hsl.2; have := hjt.out; simp [ones] at *; omega
            go_wp2_with (at_builtin; refine wp_append_i rfl _ _ rfl w1.heap.size _ m _ rfl (hown.out.alloc _) wr.heap.size 1 1 rfl (by simp) (by omega) (by simp; omega) ?_)
            intro g' cap' w2 hown2 hgrow hat hlt3
            have hcap : m + 1 ≤ cap' := by
              obtain ⟨A', c', e, h1, h2⟩ := own_shape hown2
              cases e; exact h1
            have hbe2 : Below w1.heap.size w1 w2 := (hbe.alloc (by omega) _).grown hgrow (by simp; omega) (fun k' e => (hown.out.lt k' e).1)
            have Hown2 := Lib.hid (show w2.ownsRow w1.heap.size 2 1 (.slice (some ⟨g', 0, none⟩) (m + 1) cap') (m + 1) ((seqB xs ++ ones (j + 1)).map (Value.int .i64)) by rw [Hon.out]; simpa using hown2)
            have Hm2 := Lib.hid (show m + 1 = (seqB xs ++ ones (j + 1)).length by rw [Hon.out, List.length_append, ← hm.out]; rfl)
            clear hown hown2 hgrow hat hbe hm
            go_wp2
            go_roundw
            case rel => exact ⟨j + 1, t2, m + 1, _, _, by first | (congr 1; done) | (congr 1; omega), rfl, by omega, by omega, hcap, Lib.hid (by have := hjt.out; omega), Hm2, Hown2, hbe2⟩
            case measure => first | (simp [intOf]; done) | (simp [intOf]; omega)
          · obtain rfl : t' = 0 := by omega
            have Hj := Lib.hid (show j = mo by have := hjt.out; omega)
            have hlt2 : ¬ (0 : Int) < ((0 : Nat) : Int) := by omega
            go_wp2
            go_ret
            exact ⟨_, rfl, by rw [← Hj.out]; exact (Ow.of_own hown.out).wide hs1 (Nat.le_refl _), hw1.trans (hbe.mono hs1)⟩
end WD
end Go.Proofs.Ytcnoaclijhcckaa
