/-
  WALKS, CHAPTER 3: the reference's divisors.
-/
import Derived.Test.YtcnoaclijhcckaaWlkC3
import Derived.Test.YtcnoaclijhcckaaKitS
namespace Go.Proofs.Ytcnoaclijhcckaa
open Go.RowKit
set_option linter.unusedVariables false
namespace WC
open K Pl WA
set_option maxHeartbeats 1600000 in
theorem l03Divisors_any (B : Nat) (v : Value) (xs : List Int) (w : World) (h : Is w B v xs) (hB : B ≤ w.heap.size) (hp : 0 < xs.length) (hl : xs.length ≤ 1000000000) (hr : Hid (∀ j, j < xs.length → 0 ≤ gx xs j ∧ gx xs j ≤ 9223372036854775807)) :
    Calls Try.prog 59 #[.agg #[v]] w fun e w' => ∃ v', e = .returned v' ∧ Ow w' w.heap.size w'.heap.size v' (divs xs) ∧ Below w.heap.size w w' := by
  have H1 := Lib.hid (dg_one xs (hr.out 0 hp).1)
  obtain ⟨A, n, c, rfl, hnc, hcm, hrd⟩ := h
  have Hlen := Lib.hid hrd.len
  rw [Hlen.out] at hl hp
  unfold maxLen at hcm
  obtain ⟨ad, rfl, hab, hc⟩ := hrd.pos hp
  have Hc := Lib.hid hc
  have hc0 : ∀ o, (w.alloc o).cell? ad = some (.int .i64 (gx xs 0)) := fun o => (World.cell?_alloc_lt w o _ (by omega)).trans (by have := hc 0 hp; simpa [Addr.add] using this)
  have hown0 : ∀ o, ((w.alloc o).alloc (.cells #[.int .i64 (gx xs 0)] 2)).ownsRow (w.heap.size + 1) 2 1 (.slice (some ⟨w.heap.size + 1, 0, none⟩) 1 1) (dvl xs 1).length ((dvl xs 1).map (Value.int .i64)) := fun o => by
    have e : dvl xs 1 = [gx xs 0] := by rw [dvl_snoc, dvl_zero, H1.out]; rfl
    rw [e]
    have := World.ownsRow_lit (base := w.heap.size + 1) (e := 2) (size := 1) (w.alloc o) #[.int .i64 (gx xs 0)] 1 (by simp) (by decide) rfl
    simpa using this
  have hbe0 : ∀ o o', Below w.heap.size w ((w.alloc o).alloc o') := fun o o' => ((Below.refl _ _).alloc (Nat.le_refl _) _).alloc (by simp) _
  clear hc hrd
  go_enter Try.func59, Try.ntmps59
  go_wp2
  go_loopw [3, 4] (fun u i wr => ∃ k : Nat, 1 ≤ k ∧ k ≤ n ∧ i = .int .i64 k ∧ Hid (wr.ownsRow (w.heap.size + 1) 2 1 u (dvl xs k).length ((dvl xs k).map (Value.int .i64))) ∧ wr.cell? ⟨w.heap.size, 0, none⟩ = some (.slice (some ad) n c) ∧ Below w.heap.size w wr) (fun _ i _ => n - (intOf i).toNat)
  case atStart => exact ⟨1, by omega, hp, rfl, Lib.hid (hown0 _), by simp [go_sem], hbe0 _ _⟩
  case round =>
    clear hc0 hown0 hbe0
    obtain ⟨k, hk1, hk, rfl, hown, hcb, hbe⟩ := hrel
    have Hlk := Lib.hid (dvl_len xs k)
    by_cases hlt : k < n
    · have hc1 : wr.cell? (ad.add k) = some (.int .i64 (gx xs k)) := (hbe.cell (by rw [block_of_add]; omega)).trans (Hc.out k hlt)
      obtain ⟨g, cap, rfl⟩ := Go.Joins.ownsRow_form hown.out (by rw [Hlk.out]; omega)
      rw [Hlk.out] at hown ⊢
      have hc2 : wr.cell? ⟨g, k - 1, none⟩ = some (.int .i64 (dg xs k)) := by
        rw [hown.out.cellAt (k - 1) (by omega), map_gx _ _ (by rw [Hlk.out]; omega), gx_dvl _ _ _ (by omega), show k - 1 + 1 = k by omega]
      have hi1 : 0 ≤ (k : Int) ∧ (k : Int) < (n : Int) := by omega
      have hi2 : 0 ≤ (k : Int) - 1 ∧ (k : Int) - 1 < (k : Int) := by omega
      have hi3 : (1 : Int) ≤ (k : Int) := by omega
      have hb1 := hr.out k (by rw [Hlen.out]; exact hlt)
      have hb2 := dg_bd hr.out k (by rw [Hlen.out]; exact hk)
      have Hsn := Lib.hid (dvl_snoc xs k)
      have hs := hbe.size
      have hs1 : w.heap.size + 1 ≤ wr.heap.size := by have := (hown.out.lt g rfl); omega
      have hwk : IntKind.i64.wrap ((k : Int) - 1) = (k : Int) - 1 := IntWalk.i64_in _ (by omega)
      go_wp2_with fail
      go_region_law (first
        | (refine step_append_i (by rfl) _ _ (by rfl) (w.heap.size + 1) (.slice (some ⟨g, 0, none⟩) k cap) k (dvl xs k) (by simp [Act.eval]) (hown.out.alloc _) wr.heap.size (dg xs (k + 1)) 1 (by simp [Act.eval]) (by simp [go_sem]) (by omega) (by simp; omega) ?_; intro g' cap' w2 hown2 hgrow hat hlt2)
        | (go_simp; go_at_call 58; refine (l01Gcd_any _ _ _ (by omega) (by omega) (by omega) (by omega)).mono ?_; rintro e w' ⟨rfl, rfl⟩; rw [← dg_succ]))
      all_goals
        have Hown2 := Lib.hid (show w2.ownsRow (w.heap.size + 1) 2 1 (.slice (some ⟨g', 0, none⟩) (k + 1) cap') (dvl xs (k + 1)).length ((dvl xs (k + 1)).map (Value.int .i64)) by rw [dvl_len, Hsn.out]; exact hown2)
        have hbe2 : Below w.heap.size w w2 := (hbe.alloc hs _).grown (row := some g) ⟨hgrow.os, hgrow.tape, hgrow.output, hgrow.size, hgrow.block⟩ (by simp; omega) (fun k' e => by cases e; have := hown.out.lt g rfl; omega)
        have hcb2 : w2.cell? ⟨w.heap.size, 0, none⟩ = some (.slice (some ad) n c) := (hgrow.cell_far ⟨w.heap.size, 0, none⟩ (by simp; omega) (by have := hown.out.lt g rfl; simp [Value.ownBlock]; omega)).trans ((World.cell?_alloc_lt wr _ ⟨w.heap.size, 0, none⟩ (by show w.heap.size < _; omega)).trans hcb)
        clear hown hown2 hgrow hat hbe hcb hwk
        go_wp2_with fail
        go_roundw
        case rel => exact ⟨k + 1, by omega, by omega, by go_num, Hown2, hcb2, hbe2⟩
        case measure => first | (simp [intOf]; done) | (simp [intOf]; omega)
    · obtain rfl : k = n := by omega
      go_wp2
      go_ret
      exact ⟨_, rfl, by unfold divs; rw [Hlen.out]; exact (Ow.of_own hown.out).wide (Nat.le_succ _) (Nat.le_refl _), hbe⟩
end WC
end Go.Proofs.Ytcnoaclijhcckaa
