/-
  WALKS, CHAPTER 3: truncations.
-/
import Derived.Test.YtmkfbcabpkendaaWlkC4
import Derived.Test.YtmkfbcabpkendaaWlkL5
namespace Go.Proofs.Ytmkfbcabpkendaa
open Go.RowKit
set_option linter.unusedVariables false
namespace WC
open K Pl WA WL
/-- What a function that returns a branch and a code leaves. -/
def LiB (r : List Int × Int) (w : World) (e : Ending) (w' : World) : Prop := ∃ v, e = .returned (.tuple #[.agg #[v], .int .i64 r.2]) ∧ Ow w' w.heap.size w'.heap.size v r.1 ∧ Below w.heap.size w w'
theorem LiB.nil {w w' : World} {c : Int} {r : List Int × Int} (hr : r = ([], c)) (h : Below w.heap.size w w') : LiB r w (.returned (.tuple #[.agg #[.slice none 0 0], .int .i64 c])) w' := by
  subst hr
  exact ⟨_, rfl, Ow.nil _ _ _, h⟩
/-- The result's cell is written, last of all. -/
theorem res_out {w wr : World} {b b6 n c : Nat} {A : Option Addr} {xs : List Int} {u : Value} {lo : Nat} (h : Bv wr b6 lo A n c xs) (hb : b < lo) (hc : wr.cell? ⟨b, 0, none⟩ = some u) (hw : w.heap.size ≤ b) (hbe : Below w.heap.size w wr) :
    (wr.setCell ⟨b, 0, none⟩ (.slice A n c)).cell? ⟨b, 0, none⟩ = some (.slice A n c) ∧ Ow (wr.setCell ⟨b, 0, none⟩ (.slice A n c)) w.heap.size (wr.setCell ⟨b, 0, none⟩ (.slice A n c)).heap.size (.slice A n c) xs ∧ Below w.heap.size w (wr.setCell ⟨b, 0, none⟩ (.slice A n c)) := by
  refine ⟨World.cell?_setCell_same _ _ _ hc, ?_, hbe.setCell (p := ⟨b, 0, none⟩) hw _⟩
  refine (((h.ow (Nat.le_refl _)).keep (Chg.setCell (lo := b) (hi := b + 1) (p := ⟨b, 0, none⟩) ⟨by simp, by simp⟩ _) (.inr (by omega))).wide (by omega) (by simp))
theorem res_out2 {w wr : World} {b lo hi : Nat} {v u : Value} {xs : List Int} (h : Ow wr lo hi v xs) (hb : b < lo) (hhi : hi ≤ wr.heap.size) (hc : wr.cell? ⟨b, 0, none⟩ = some u) (hw : w.heap.size ≤ b) (hbe : Below w.heap.size w wr) :
    (wr.setCell ⟨b, 0, none⟩ v).cell? ⟨b, 0, none⟩ = some v ∧ Ow (wr.setCell ⟨b, 0, none⟩ v) w.heap.size (wr.setCell ⟨b, 0, none⟩ v).heap.size v xs ∧ Below w.heap.size w (wr.setCell ⟨b, 0, none⟩ v) :=
  ⟨World.cell?_setCell_same _ _ _ hc, (h.keep (Chg.setCell (lo := b) (hi := b + 1) (p := ⟨b, 0, none⟩) ⟨by simp, by simp⟩ _) (.inr (by omega))).wide (by omega) (by simpa using hhi), hbe.setCell (p := ⟨b, 0, none⟩) hw _⟩
/-- A failure's result: the cell is written with nothing. -/
theorem res_none {w wr : World} {b : Nat} {u : Value} (hc : wr.cell? ⟨b, 0, none⟩ = some u) (hw : w.heap.size ≤ b) (hbe : Below w.heap.size w wr) :
    (wr.setCell ⟨b, 0, none⟩ (.slice none 0 0)).cell? ⟨b, 0, none⟩ = some (.slice none 0 0) ∧ Below w.heap.size w (wr.setCell ⟨b, 0, none⟩ (.slice none 0 0)) :=
  ⟨World.cell?_setCell_same _ _ _ hc, hbe.setCell (p := ⟨b, 0, none⟩) hw _⟩
theorem div_eq {a b : Int} (ha : 0 ≤ a) (hb : 1 ≤ b) (ha' : a ≤ 2000) : IntKind.i64.wrap (a.tdiv b) = a / b := by
  rw [Int.tdiv_eq_ediv_of_nonneg ha]
  have h1 : 0 ≤ a / b := Int.ediv_nonneg ha (by omega)
  have h2 : a / b ≤ a := Int.ediv_le_self _ ha
  exact IntWalk.i64_in _ (by omega)
set_option maxHeartbeats 1600000 in
theorem truncated_any (B : Nat) (v : Value) (xs : List Int) (k : Nat) (w : World) (h : Is w B v xs) (hB : B ≤ w.heap.size) (hR : isBr xs = true) (hk : k < xs.length) :
    Calls Try.prog 40 #[.agg #[v], .int .i64 (k : Int)] w fun e w' => ∃ v', e = .returned (.agg #[v']) ∧ Ow w' w.heap.size w'.heap.size v' (trn xs k (k + 1)) ∧ Below w.heap.size w w' := by
  have Hh := Lib.hid h
  have Hg := Lib.hid (isBr_rg hR)
  have H7 := isBr_len_le hR
  have Hl := Lib.hid (show xs.length ≤ 1000000000 by omega)
  have Hrg := Lib.hid (isBr_range hR)
  have hdg := isBr_dg hR (k + 1) (by omega)
  have hb2 : ∀ o o', Below w.heap.size w ((w.alloc o).alloc o') := fun o o' => ((Below.refl _ _).alloc (Nat.le_refl _) _).alloc (by simp) _
  obtain ⟨A, n, c, rfl, hnc, hcm, hrd⟩ := h
  have Hlen := Lib.hid hrd.len
  rw [Hlen.out] at hk H7
  obtain ⟨ad, rfl, hab, hc⟩ := hrd.pos (by omega)
  have Hc := Lib.hid hc
  unfold maxLen at hcm
  clear hrd hc hR
  go_enter Try.func40, Try.ntmps40
  go_wp2_with fail
  refine (divisors_any B _ xs _ (Hh.out.below ((hb2 _ _).mono hB)) (by simp; omega) Hl.out Hg).mono ?_
  rintro e w1 ⟨v1, rfl, ow1, hb1⟩
  obtain ⟨A1, n1, c1, rfl, hnc1, hcm1, hrd1⟩ := ow1.is
  obtain rfl : n1 = n := by have := hrd1.len; rw [divs_len, Hlen.out] at this; omega
  obtain ⟨ad1, rfl, hab1, hc1⟩ := hrd1.pos (by omega)
  have hce : w1.cell? (ad1.add k) = some (.int .i64 (dg xs (k + 1))) := by rw [hc1 k hk, gx_divs _ _ (by rw [Hlen.out]; exact hk)]
  have hcb : w1.cell? ⟨w.heap.size, 0, none⟩ = some (.slice (some ad) n1 c) := (hb1.cell (p := ⟨w.heap.size, 0, none⟩) (by simp; omega)).trans (by simp [go_sem])
  have hcbo : ∀ o, (w1.alloc o).cell? ⟨w.heap.size, 0, none⟩ = some (.slice (some ad) n1 c) := fun o => (World.cell?_alloc_lt w1 o ⟨w.heap.size, 0, none⟩ (World.block_lt_of_cell? w1 ⟨w.heap.size, 0, none⟩ hcb)).trans hcb
  have hcr : w1.cell? ⟨w.heap.size + 1, 0, none⟩ = some (.slice none 0 0) := (hb1.cell (p := ⟨w.heap.size + 1, 0, none⟩) (by simp)).trans (by simp [go_sem])
  have hfr : w1.frozen? ⟨w.heap.size + 1, 0, none⟩ = false := (hb1.frozen (p := ⟨w.heap.size + 1, 0, none⟩) (by simp)).trans (by simp [go_sem])
  have hw1 := (hb2 _ _).trans (hb1.mono (by simp; omega))
  have hs1 : w.heap.size + 2 ≤ w1.heap.size := by have := hb1.size; simp at this; omega
  have hi1 : 0 ≤ (k : Int) ∧ (k : Int) < (n1 : Int) := by omega
  have hkc : (k : Int) + 1 ≤ (c : Int) := by omega
  have hkc2 : 0 ≤ (k : Int) + 1 := by omega
  have hbn : Hid (Bv (w1.alloc (.cells #[.slice none 0 0] 26)) w1.heap.size (w1.heap.size + 1) none 0 0 (trn xs k 0)) := Lib.hid ⟨rfl, by simp [go_sem], by simp [go_sem], World.ownsRow_nil _ _ _ _, by simp [Value.ownBlock]⟩
  have hbe0 : ∀ o, Below w1.heap.size w1 (w1.alloc o) := fun o => (Below.refl _ _).alloc (Nat.le_refl _) o
  unfold maxLen at hcm1
  clear hb1 ow1 hrd1 hc1 hb2
  go_wp2
  go_loopw [22] (fun i wr => ∃ (j : Nat) (A6 : Option Addr) (c6 : Nat), j ≤ k + 1 ∧ i = .int .i64 j ∧ Hid (Bv wr w1.heap.size (w1.heap.size + 1) A6 j c6 (trn xs k j)) ∧ Below w1.heap.size w1 wr) (fun i _ => k + 1 - (intOf i).toNat)
  case atStart => exact ⟨0, none, 0, Nat.zero_le _, rfl, hbn, hbe0 _⟩
  case round =>
    clear hbn hbe0 hce hcb hcbo
    obtain ⟨j, A6, c6, hj, rfl, hv, hbe⟩ := hrel
    have hbd := hv.out.bounds
    have hs := hbe.size
    have hbv := hv.out.lt
    by_cases hlt : j < k + 1
    · have hc3 : wr.cell? (ad.add j) = some (.int .i64 (gx xs j)) := (hbe.cell (by rw [block_of_add]; omega)).trans ((hw1.cell (by rw [block_of_add]; omega)).trans (Hc.out j (by omega)))
      have hcx := hv.out.cell
      have hfx := hv.out.free
      have hgj := Hrg.out j (by rw [Hlen.out]; omega)
      have hd0 : ¬ dg xs (k + 1) = 0 := by omega
      have hq := div_eq (show 0 ≤ gx xs j by omega) hdg.1 hgj.2
      have hi2 : 0 ≤ (j : Int) ∧ (j : Int) < (k : Int) + 1 := by omega
      have Hsn := Lib.hid (trn_snoc xs k j)
      go_wp2_with fail
      go_region_law (first | (refine step_append_i (by rfl) _ _ (by rfl) (w1.heap.size + 1) (.slice A6 j c6) j (trn xs k j) (by simp [Act.eval]) (hv.out.own.alloc _) wr.heap.size (gx xs j / dg xs (k + 1)) 1 (by simp [Act.eval]) (by simp [go_sem]) (by omega) (by simp; omega) ?_; intro g' cap' w2 hown2 hgrow hat hlt2; obtain ⟨q1, q2⟩ := hv.out.after hgrow rfl))
      all_goals
        have Hv2 := Lib.hid (hv.out.step hgrow rfl hown2 hat)
        rw [← Hsn.out] at Hv2
        have hbe2 := fun u => hv.out.below (Nat.le_refl _) (Nat.le_succ _) hbe hgrow ⟨rfl, rfl, rfl, rfl⟩ u
        clear hv hown2 hgrow hat hq q1 q2 hcx hfx
        go_wp2_with fail
        go_roundw
        case rel => exact ⟨j + 1, _, _, by omega, by go_num, Hv2, hbe2 _⟩
        case measure => first | (simp [intOf]; done) | (simp [intOf]; omega)
    · obtain rfl : j = k + 1 := by omega
      have hcx := hv.out.cell
      have hcr2 : wr.cell? ⟨w.heap.size + 1, 0, none⟩ = some (.slice none 0 0) := (hbe.cell (p := ⟨w.heap.size + 1, 0, none⟩) (by show w.heap.size + 1 < _; omega)).trans hcr
      have hfr2 : wr.frozen? ⟨w.heap.size + 1, 0, none⟩ = false := (hbe.frozen (p := ⟨w.heap.size + 1, 0, none⟩) (by show w.heap.size + 1 < _; omega)).trans hfr
      obtain ⟨r1, r2, r3⟩ := res_out hv.out (b := w.heap.size + 1) (by omega) hcr2 (by omega) (hw1.trans (hbe.mono (by omega)))
      have R2 := Lib.hid r2; have R3 := Lib.hid r3
      clear r2 r3
      go_wp2
      refine bodyPost_ret (v := .agg #[.slice A6 (k + 1) c6]) (by simp [results, Try.results40, go_sem, r1]) rfl ⟨_, rfl, R2.out, R3.out⟩
end WC
end Go.Proofs.Ytmkfbcabpkendaa
