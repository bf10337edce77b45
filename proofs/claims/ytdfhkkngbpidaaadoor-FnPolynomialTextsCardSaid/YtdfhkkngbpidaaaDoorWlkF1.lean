/-
  WALKS, DRAWS: the source, its numbers, a pick.
-/
import Derived.Test.YtdfhkkngbpidaaaDoorKitB
import Derived.Test.YtdfhkkngbpidaaaDoorKitR
import Derived.Deep.QuietTactic
import Derived.BigQuiet
namespace Go.Proofs.YtdfhkkngbpidaaaDoor
open Go.RowKit
set_option linter.unusedVariables false
namespace WF
open K Pl
theorem Chg.setC {lo hi : Nat} {w : World} {p : Addr} (h : lo ≤ p.block ∧ p.block < hi) (u : Value) : Chg lo hi w (w.setCell p u) :=
  ⟨rfl, rfl, rfl, by simp, fun k hk hn => Below.heap_setCell w p u k (fun e => hn (by rw [e]; exact h))⟩
theorem Chg.drw {w : World} (n lo hi : Nat) : Chg lo hi w (w.drewN n) := ⟨rfl, rfl, rfl, Nat.le_refl _, fun _ _ _ => rfl⟩
set_option maxHeartbeats 800000 in
theorem l01From_any (B : Nat) (v : Value) (n : Nat) (w : World) (h : IsY w B v n) (hB : B ≤ w.heap.size) :
    Calls Tryd.prog 21 #[v] w fun e w' => e = .returned (.pointer (some ⟨w.heap.size, 0, none⟩)) ∧ Src w' B w.heap.size ∧ Below w.heap.size w w' := by
  have Hh := Lib.hid h
  obtain ⟨A, c, rfl, hnc, hcm, hrd⟩ := h
  unfold maxLen at hcm
  have hb1 : ∀ o, Below w.heap.size w (w.alloc o) := fun o => (Below.refl _ _).alloc (Nat.le_refl _) o
  go_enter Tryd.func21, Tryd.ntmps21
  go_wp2
  go_loopw [4] (fun i wr => ∃ k : Nat, k ≤ n ∧ i = .int .i64 (k : Int) ∧ (∃ x : Int, wr.cell? ⟨w.heap.size, 2, none⟩ = some (.int .u64 x)) ∧ wr.cell? ⟨w.heap.size, 0, none⟩ = some (.slice A n c) ∧ wr.cell? ⟨w.heap.size, 1, none⟩ = some (.int .i64 0) ∧ wr.frozen? ⟨w.heap.size, 1, none⟩ = false ∧ wr.frozen? ⟨w.heap.size, 2, none⟩ = false ∧ Below w.heap.size w wr) (fun i _ => n - (intOf i).toNat)
  case atStart => exact ⟨0, Nat.zero_le _, rfl, ⟨_, by simp [go_sem]; rfl⟩, by simp [go_sem], by simp [go_sem], by simp [go_sem], by simp [go_sem], hb1 _⟩
  case round =>
    obtain ⟨k, hk, rfl, ⟨x, hx⟩, h0, h1, f1, f2, hbe⟩ := hrel
    by_cases hlt : k < n
    · obtain ⟨ad, rfl, hab, hc⟩ := hrd (by omega)
      obtain ⟨y, hy, hy0, hy1⟩ := hc k hlt
      have hcy : wr.cell? (ad.add k) = some (.int .u8 y) := (hbe.cell (by rw [block_of_add]; omega)).trans hy
      have hi1 : 0 ≤ (k : Int) ∧ (k : Int) < (n : Int) := by omega
      clear hc
      by_cases h4 : k < 4096
      · have h4' : (k : Int) < 4096 := by omega
        go_wp2_with fail
        go_region
        go_wp2
        go_roundw
        case rel => exact ⟨k + 1, by omega, by go_num, ⟨_, World.cell?_setCell_same wr ⟨w.heap.size, 2, none⟩ _ hx⟩, (World.cell?_setCell_other wr ⟨w.heap.size, 2, none⟩ _ _ (by simp)).trans h0, (World.cell?_setCell_other wr ⟨w.heap.size, 2, none⟩ _ _ (by simp)).trans h1, by simpa [go_sem] using f1, by simpa [go_sem] using f2, (hbe.setCell (p := ⟨w.heap.size, 2, none⟩) (Nat.le_refl _) _).drew⟩
        case measure => first | (simp [intOf]; done) | (simp [intOf]; omega)
      · have h4' : ¬ (k : Int) < 4096 := by omega
        go_wp2
        go_ret
        exact ⟨rfl, ⟨⟨_, n, 0, x, Hh.out.below (hbe.mono hB), Nat.zero_le _, h0, h1, hx⟩, f1, f2, hB⟩, hbe⟩
    · go_wp2
      go_ret
      exact ⟨rfl, ⟨⟨_, n, 0, x, Hh.out.below (hbe.mono hB), Nat.zero_le _, h0, h1, hx⟩, f1, f2, hB⟩, hbe⟩
/-- What a draw of a number below n can be. -/
def NxR (n r : Int) : Prop := 0 ≤ r ∧ (1 ≤ n → r < n) ∧ (n < 1 → r = 0)
set_option maxHeartbeats 1600000 in
theorem l01Next_any (B b : Nat) (n : Int) (w : World) (h : Src w B b) (hn : n ≤ 9223372036854775807) :
    Calls Tryd.prog 30 #[.pointer (some ⟨b, 0, none⟩), .int .i64 n] w fun e w' => ∃ r, e = .returned (.int .i64 r) ∧ NxR n r ∧ Src w' B b ∧ Chg b (b + 1) w w' := by
  by_cases hn1 : n < 1
  · go_enter Tryd.func30, Tryd.ntmps30
    go_wp2
    go_ret
    exact ⟨0, rfl, ⟨Int.le_refl _, fun h => by omega, fun _ => rfl⟩, h, Chg.refl⟩
  · have Hs := Lib.hid h
    obtain ⟨⟨v, N, t, x, hv, ht, h0, h1, h2⟩, f1, f2, hl⟩ := h
    have Hv := Lib.hid hv
    obtain ⟨A, c, rfl, hnc, hcm, hrd⟩ := hv
    unfold maxLen at hcm
    have Hf1 := Lib.hid f1; have Hf2 := Lib.hid f2
    have hn0 : ¬ n = 0 := by omega
    have hlt := Hs.out.here
    go_enter Tryd.func30, Tryd.ntmps30
    go_wp2_with fail
    generalize IntKind.u64.wrap (IntKind.u64.wrap (x * 6364136223846793005) + 1442695040888963407) = h'
    obtain ⟨z, hz, hz0, hz1⟩ : ∃ z, wrap64 (bits .and .u64 (h' / 8589934592) 16777215) = z ∧ 0 ≤ z ∧ z ≤ 16777215 := by
      have := and24 (h' / 8589934592)
      refine ⟨_, rfl, ?_⟩
      unfold wrap64
      omega
    rw [hz]
    clear hz
    generalize bits .and .u64 (h' / 8589934592) 16777215 = z2
    obtain ⟨w1, hw1⟩ : ∃ w1, w1 = w.setCell ⟨b, 2, none⟩ (.int .u64 h') := ⟨_, rfl⟩
    rw [← hw1]
    have k0 : w1.cell? ⟨b, 0, none⟩ = some (.slice A N c) := by rw [hw1]; exact (World.cell?_setCell_other w ⟨b, 2, none⟩ _ _ (by simp)).trans h0
    have k1 : w1.cell? ⟨b, 1, none⟩ = some (.int .i64 (t : Int)) := by rw [hw1]; exact (World.cell?_setCell_other w ⟨b, 2, none⟩ _ _ (by simp)).trans h1
    have k2 : w1.cell? ⟨b, 2, none⟩ = some (.int .u64 h') := by rw [hw1]; exact World.cell?_setCell_same w ⟨b, 2, none⟩ _ h2
    have g1 : w1.frozen? ⟨b, 1, none⟩ = false := by rw [hw1]; simpa [go_sem] using f1
    have g2 : w1.frozen? ⟨b, 2, none⟩ = false := by rw [hw1]; simpa [go_sem] using f2
    have hch1 : Chg b (b + 1) w w1 := by rw [hw1]; exact Chg.setC (p := ⟨b, 2, none⟩) ⟨Nat.le_refl _, Nat.lt_succ_self _⟩ _
    have Hv1 := Lib.hid (Hv.out.keep (w' := w1) fun p hp => World.cell?_of_block (w := w) (hch1.block p.block (by omega) (by omega)))
    clear hw1 h0 h1 h2 f1 f2
    by_cases ht2 : t < N
    · obtain ⟨A', c', e', _, _, hrd1⟩ := Hv1.out
      cases e'
      obtain ⟨ad, rfl, hab, hc⟩ := hrd1 (by omega)
      obtain ⟨y, hy, hy0, hy1⟩ := hc t ht2
      have hi1 : 0 ≤ (t : Int) ∧ (t : Int) < (N : Int) := by omega
      have hpt : (z + y).tmod n = (z + y) % n := Int.tmod_eq_emod_of_nonneg (by omega)
      have hw64 : wrap64 y = y := by unfold wrap64; omega
      have hwzy : IntKind.i64.wrap (z + y) = z + y := IntWalk.i64_in _ (by omega)
      clear hc hrd1 hrd
      go_quiet (fail)
      obtain ⟨w2, hw2⟩ : ∃ w2, w2 = w1.drewN nq := ⟨_, rfl⟩
      rw [← hw2]
      have k0 : w2.cell? ⟨b, 0, none⟩ = some (.slice (some ad) N c) := by rw [hw2]; exact k0
      have k1 : w2.cell? ⟨b, 1, none⟩ = some (.int .i64 (t : Int)) := by rw [hw2]; exact k1
      have k2 : w2.cell? ⟨b, 2, none⟩ = some (.int .u64 h') := by rw [hw2]; exact k2
      have g1 : w2.frozen? ⟨b, 1, none⟩ = false := by rw [hw2]; exact g1
      have g2 : w2.frozen? ⟨b, 2, none⟩ = false := by rw [hw2]; exact g2
      have hy : w2.cell? (ad.add t) = some (.int .u8 y) := by rw [hw2]; exact hy
      have hch2 : Chg b (b + 1) w w2 := by rw [hw2]; exact hch1.trans (Chg.drw _ _ _)
      have Hv2 := Lib.hid (show IsY w2 B (.slice (some ad) N c) N by rw [hw2]; exact Hv1.out.keep fun _ _ => rfl)
      clear hw2 hch1 Hv1
      go_wp2_with fail
      go_quiet (fail)
      obtain ⟨w3, hw3⟩ : ∃ w3, w3 = w2.drewN nq := ⟨_, rfl⟩
      rw [← hw3]
      have k0 : w3.cell? ⟨b, 0, none⟩ = some (.slice (some ad) N c) := by rw [hw3]; exact k0
      have k1 : w3.cell? ⟨b, 1, none⟩ = some (.int .i64 (t : Int)) := by rw [hw3]; exact k1
      have k2 : w3.cell? ⟨b, 2, none⟩ = some (.int .u64 h') := by rw [hw3]; exact k2
      have g1 : w3.frozen? ⟨b, 1, none⟩ = false := by rw [hw3]; exact g1
      have g2 : w3.frozen? ⟨b, 2, none⟩ = false := by rw [hw3]; exact g2
      have hch3 : Chg b (b + 1) w w3 := by rw [hw3]; exact hch2.trans (Chg.drw _ _ _)
      have Hv3 := Lib.hid (show IsY w3 B (.slice (some ad) N c) N by rw [hw3]; exact Hv2.out.keep fun _ _ => rfl)
      clear hw3 hch2 Hv2
      go_wp2
      go_ret
      exact ⟨_, rfl, ⟨Int.emod_nonneg _ hn0, fun _ => Int.emod_lt_of_pos _ (by omega), fun h => by omega⟩,
        ⟨⟨.slice (some ad) N c, N, t + 1, h', Hv3.out.keep fun p hp => Below.cell (B := b) ((Below.refl b w3).setCell (p := ⟨b, 1, none⟩) (Nat.le_refl _) _) (by omega), by omega, (World.cell?_setCell_other w3 ⟨b, 1, none⟩ _ _ (by simp)).trans k0, World.cell?_setCell_same w3 ⟨b, 1, none⟩ _ k1, (World.cell?_setCell_other w3 ⟨b, 1, none⟩ _ _ (by simp)).trans k2⟩, by simpa [go_sem] using g1, by simpa [go_sem] using g2, hl⟩,
        hch3.trans (Chg.setC (p := ⟨b, 1, none⟩) ⟨Nat.le_refl _, Nat.lt_succ_self _⟩ _)⟩
    · have hpt : z.tmod n = z % n := Int.tmod_eq_emod_of_nonneg hz0
      have hge : ¬ (t : Int) < (N : Int) := by omega
      go_quiet (fail)
      go_wp2
      go_ret
      exact ⟨_, rfl, ⟨Int.emod_nonneg _ hn0, fun _ => Int.emod_lt_of_pos _ (by omega), fun h => by omega⟩, ⟨⟨_, N, t, h', Hv1.out.keep fun _ _ => rfl, ht, k0, k1, k2⟩, g1, g2, hl⟩, hch1.trans (Chg.drw _ _ _)⟩
end WF
end Go.Proofs.YtdfhkkngbpidaaaDoor
