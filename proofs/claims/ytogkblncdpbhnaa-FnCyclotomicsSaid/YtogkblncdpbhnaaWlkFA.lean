/-
  WALKS, DRAWS: the source, its numbers, a pick.
  WALKS, DRAWS: a pick, an integer, two numbers, parts.
  WALKS, DRAWS: parts of fractions, fractions' numbers.
-/
import Derived.Test.YtogkblncdpbhnaaKitB
import Derived.Test.YtogkblncdpbhnaaKitR
import Derived.Deep.QuietTactic
import Derived.BigQuiet
import Derived.Test.YtogkblncdpbhnaaWlkA2
import Derived.Test.YtogkblncdpbhnaaKitS
namespace Go.Proofs.Ytogkblncdpbhnaa
open Go.RowKit
set_option linter.unusedVariables false
namespace WF
open K Pl
theorem Chg.setC {lo hi : Nat} {w : World} {p : Addr} (h : lo ≤ p.block ∧ p.block < hi) (u : Value) : Chg lo hi w (w.setCell p u) :=
  ⟨rfl, rfl, rfl, by simp, fun k hk hn => Below.heap_setCell w p u k (fun e => hn (by rw [e]; exact h))⟩
theorem Chg.drw {w : World} (n lo hi : Nat) : Chg lo hi w (w.drewN n) := ⟨rfl, rfl, rfl, Nat.le_refl _, fun _ _ _ => rfl⟩
set_option maxHeartbeats 800000 in
theorem l01From_any (B : Nat) (v : Value) (n : Nat) (w : World) (h : IsY w B v n) (hB : B ≤ w.heap.size) :
    Calls Try.prog 18 #[v] w fun e w' => e = .returned (.pointer (some ⟨w.heap.size, 0, none⟩)) ∧ Src w' B w.heap.size ∧ Below w.heap.size w w' := by
  have Hh := Lib.hid h
  obtain ⟨A, c, rfl, hnc, hcm, hrd⟩ := h
  unfold maxLen at hcm
  have hb1 : ∀ o, Below w.heap.size w (w.alloc o) := fun o => (Below.refl _ _).alloc (Nat.le_refl _) o
  go_enter Try.func18, Try.ntmps18
  go_wp2
  go_loopw [4] (fun i wr => ∃ k : Nat, k ≤ n ∧ i = .int .i64 (k : Int) ∧ (∃ x : Int, wr.cell? ⟨w.heap.size, 2, none⟩ = some (.int .u64 x)) ∧ wr.cell? ⟨w.heap.size, 0, none⟩ = some (.slice A n c) ∧ wr.cell? ⟨w.heap.size, 1, none⟩ = some (.int .i64 0) ∧ wr.frozen? ⟨w.heap.size, 1, none⟩ = false ∧ wr.frozen? ⟨w.heap.size, 2, none⟩ = false ∧ Below w.heap.size w wr) (fun i _ => n - (intOf i).toNat)
  case atStart => exact ⟨0, Nat.zero_le _, rfl, ⟨_, by simp [go_sem]; rfl⟩, by simp [go_sem], by simp [go_sem], by simp [go_sem], by simp [go_sem], hb1 _⟩
  case round =>
    obtain ⟨k, hk, rfl, ⟨x, hx⟩, h0, h1, f1, f2, hbe⟩ := hrel
    by_cases hlt : k < n
    · obtain ⟨ad, rfl, hab, hc⟩ := hrd (by omega)
      obtain ⟨y, hy, hy0, hy1⟩ := hc k hlt
      have hcy : wr.cell? (ad.add k) = some (.int .u8 y) := (hbe.cell (by rw [block_of_add]; omega)).trans hy
      have hi1 : 0 ≤ (k : Int) ∧ (k : Int) < (n : Int) := by omega
      clear hc
      by_cases h4 : k < 4096
      · have h4' : (k : Int) < 4096 := by omega
        go_wp2_with fail
        go_region
        go_wp2
        go_roundw
        case rel => exact ⟨k + 1, by omega, by go_num, ⟨_, World.cell?_setCell_same wr ⟨w.heap.size, 2, none⟩ _ hx⟩, (World.cell?_setCell_other wr ⟨w.heap.size, 2, none⟩ _ _ (by simp)).trans h0, (World.cell?_setCell_other wr ⟨w.heap.size, 2, none⟩ _ _ (by simp)).trans h1, by simpa [go_sem] using f1, by simpa [go_sem] using f2, (hbe.setCell (p := ⟨w.heap.size, 2, none⟩) (Nat.le_refl _) _).drew⟩
        case measure => first | (simp [intOf]; done) | (simp [intOf]; omega)
      · have h4' : ¬ (k : Int) < 4096 := by omega
        go_wp2
        go_ret
        exact ⟨rfl, ⟨⟨_, n, 0, x, Hh.out.below (hbe.mono hB), Nat.zero_le _, h0, h1, hx⟩, f1, f2, hB⟩, hbe⟩
    · go_wp2
      go_ret
      exact ⟨rfl, ⟨⟨_, n, 0, x, Hh.out.below (hbe.mono hB), Nat.zero_le _, h0, h1, hx⟩, f1, f2, hB⟩, hbe⟩
/-- What a draw of a number below n can be. -/
def NxR (n r : Int) : Prop := 0 ≤ r ∧ (1 ≤ n → r < n) ∧ (n < 1 → r = 0)
set_option maxHeartbeats 1600000 in
theorem l01Next_any (B b : Nat) (n : Int) (w : World) (h : Src w B b) (hn : n ≤ 9223372036854775807) :
    Calls Try.prog 20 #[.pointer (some ⟨b, 0, none⟩), .int .i64 n] w fun e w' => ∃ r, e = .returned (.int .i64 r) ∧ NxR n r ∧ Src w' B b ∧ Chg b (b + 1) w w' := by
  by_cases hn1 : n < 1
  · go_enter Try.func20, Try.ntmps20
    go_wp2
    go_ret
    exact ⟨0, rfl, ⟨Int.le_refl _, fun h => by omega, fun _ => rfl⟩, h, Chg.refl⟩
  · have Hs := Lib.hid h
    obtain ⟨⟨v, N, t, x, hv, ht, h0, h1, h2⟩, f1, f2, hl⟩ := h
    have Hv := Lib.hid hv
    obtain ⟨A, c, rfl, hnc, hcm, hrd⟩ := hv
    unfold maxLen at hcm
    have Hf1 := Lib.hid f1; have Hf2 := Lib.hid f2
    have hn0 : ¬ n = 0 := by omega
    have hlt := Hs.out.here
    go_enter Try.func20, Try.ntmps20
    go_wp2_with fail
    generalize IntKind.u64.wrap (IntKind.u64.wrap (x * 6364136223846793005) + 1442695040888963407) = h'
    obtain ⟨z, hz, hz0, hz1⟩ : ∃ z, wrap64 (bits .and .u64 (h' / 8589934592) 16777215) = z ∧ 0 ≤ z ∧ z ≤ 16777215 := by
      have := and24 (h' / 8589934592)
      refine ⟨_, rfl, ?_⟩
      unfold wrap64
      omega
    rw [hz]
    clear hz
    generalize bits .and .u64 (h' / 8589934592) 16777215 = z2
    obtain ⟨w1, hw1⟩ : ∃ w1, w1 = w.setCell ⟨b, 2, none⟩ (.int .u64 h') := ⟨_, rfl⟩
    rw [← hw1]
    have k0 : w1.cell? ⟨b, 0, none⟩ = some (.slice A N c) := by rw [hw1]; exact (World.cell?_setCell_other w ⟨b, 2, none⟩ _ _ (by simp)).trans h0
    have k1 : w1.cell? ⟨b, 1, none⟩ = some (.int .i64 (t : Int)) := by rw [hw1]; exact (World.cell?_setCell_other w ⟨b, 2, none⟩ _ _ (by simp)).trans h1
    have k2 : w1.cell? ⟨b, 2, none⟩ = some (.int .u64 h') := by rw [hw1]; exact World.cell?_setCell_same w ⟨b, 2, none⟩ _ h2
    have g1 : w1.frozen? ⟨b, 1, none⟩ = false := by rw [hw1]; simpa [go_sem] using f1
    have g2 : w1.frozen? ⟨b, 2, none⟩ = false := by rw [hw1]; simpa [go_sem] using f2
    have hch1 : Chg b (b + 1) w w1 := by rw [hw1]; exact Chg.setC (p := ⟨b, 2, none⟩) ⟨Nat.le_refl _, Nat.lt_succ_self _⟩ _
    have Hv1 := Lib.hid (Hv.out.keep (w' := w1) fun p hp => World.cell?_of_block (w := w) (hch1.block p.block (by omega) (by omega)))
    clear hw1 h0 h1 h2 f1 f2
    by_cases ht2 : t < N
    · obtain ⟨A', c', e', _, _, hrd1⟩ := Hv1.out
      cases e'
      obtain ⟨ad, rfl, hab, hc⟩ := hrd1 (by omega)
      obtain ⟨y, hy, hy0, hy1⟩ := hc t ht2
      have hi1 : 0 ≤ (t : Int) ∧ (t : Int) < (N : Int) := by omega
      have hpt : (z + y).tmod n = (z + y) % n := Int.tmod_eq_emod_of_nonneg (by omega)
      have hw64 : wrap64 y = y := by unfold wrap64; omega
      have hwzy : IntKind.i64.wrap (z + y) = z + y := IntWalk.i64_in _ (by omega)
      clear hc hrd1 hrd
      go_quiet (fail)
      obtain ⟨w2, hw2⟩ : ∃ w2, w2 = w1.drewN nq := ⟨_, rfl⟩
      rw [← hw2]
      have k0 : w2.cell? ⟨b, 0, none⟩ = some (.slice (some ad) N c) := by rw [hw2]; exact k0
      have k1 : w2.cell? ⟨b, 1, none⟩ = some (.int .i64 (t : Int)) := by rw [hw2]; exact k1
      have k2 : w2.cell? ⟨b, 2, none⟩ = some (.int .u64 h') := by rw [hw2]; exact k2
      have g1 : w2.frozen? ⟨b, 1, none⟩ = false := by rw [hw2]; exact g1
      have g2 : w2.frozen? ⟨b, 2, none⟩ = false := by rw [hw2]; exact g2
      have hy : w2.cell? (ad.add t) = some (.int .u8 y) := by rw [hw2]; exact hy
      have hch2 : Chg b (b + 1) w w2 := by rw [hw2]; exact hch1.trans (Chg.drw _ _ _)
      have Hv2 := Lib.hid (show IsY w2 B (.slice (some ad) N c) N by rw [hw2]; exact Hv1.out.keep fun _ _ => rfl)
      clear hw2 hch1 Hv1
      go_wp2_with fail
      go_quiet (fail)
      obtain ⟨w3, hw3⟩ : ∃ w3, w3 = w2.drewN nq := ⟨_, rfl⟩
      rw [← hw3]
      have k0 : w3.cell? ⟨b, 0, none⟩ = some (.slice (some ad) N c) := by rw [hw3]; exact k0
      have k1 : w3.cell? ⟨b, 1, none⟩ = some (.int .i64 (t : Int)) := by rw [hw3]; exact k1
      have k2 : w3.cell? ⟨b, 2, none⟩ = some (.int .u64 h') := by rw [hw3]; exact k2
      have g1 : w3.frozen? ⟨b, 1, none⟩ = false := by rw [hw3]; exact g1
      have g2 : w3.frozen? ⟨b, 2, none⟩ = false := by rw [hw3]; exact g2
      have hch3 : Chg b (b + 1) w w3 := by rw [hw3]; exact hch2.trans (Chg.drw _ _ _)
      have Hv3 := Lib.hid (show IsY w3 B (.slice (some ad) N c) N by rw [hw3]; exact Hv2.out.keep fun _ _ => rfl)
      clear hw3 hch2 Hv2
      go_wp2
      go_ret
      exact ⟨_, rfl, ⟨Int.emod_nonneg _ hn0, fun _ => Int.emod_lt_of_pos _ (by omega), fun h => by omega⟩,
        ⟨⟨.slice (some ad) N c, N, t + 1, h', Hv3.out.keep fun p hp => Below.cell (B := b) ((Below.refl b w3).setCell (p := ⟨b, 1, none⟩) (Nat.le_refl _) _) (by omega), by omega, (World.cell?_setCell_other w3 ⟨b, 1, none⟩ _ _ (by simp)).trans k0, World.cell?_setCell_same w3 ⟨b, 1, none⟩ _ k1, (World.cell?_setCell_other w3 ⟨b, 1, none⟩ _ _ (by simp)).trans k2⟩, by simpa [go_sem] using g1, by simpa [go_sem] using g2, hl⟩,
        hch3.trans (Chg.setC (p := ⟨b, 1, none⟩) ⟨Nat.le_refl _, Nat.lt_succ_self _⟩ _)⟩
    · have hpt : z.tmod n = z % n := Int.tmod_eq_emod_of_nonneg hz0
      have hge : ¬ (t : Int) < (N : Int) := by omega
      go_quiet (fail)
      go_wp2
      go_ret
      exact ⟨_, rfl, ⟨Int.emod_nonneg _ hn0, fun _ => Int.emod_lt_of_pos _ (by omega), fun h => by omega⟩, ⟨⟨_, N, t, h', Hv1.out.keep fun _ _ => rfl, ht, k0, k1, k2⟩, g1, g2, hl⟩, hch1.trans (Chg.drw _ _ _)⟩
end WF
end Go.Proofs.Ytogkblncdpbhnaa
namespace Go.Proofs.Ytogkblncdpbhnaa
open Go.RowKit
set_option linter.unusedVariables false
namespace WF
open K Pl WA
theorem Chg.al {lo hi : Nat} (w : World) (o : Obj) : Chg lo hi w (w.alloc o) := ⟨rfl, rfl, rfl, by simp, fun k hk _ => Below.heap_alloc w o k hk⟩
theorem Src.al {w : World} {B b : Nat} (h : Src w B b) (o : Obj) : Src (w.alloc o) B b := h.later ((Below.refl _ _).alloc (Nat.le_refl _) o)
/-- What a draw leaves: the source; nothing old has turned but it. -/
def Dr (B b : Nat) (w w' : World) : Prop := Src w' B b ∧ Chg b (b + 1) w w'
set_option maxHeartbeats 800000 in
theorem l01Pick_any (B b g n : Nat) (xs : List Int) (w : World) (h : Src w B b) (hn1 : 1 ≤ n) (hn9 : n ≤ 1000) (hown : w.ownsRow (b + 1) 2 1 (.slice (some ⟨g, 0, none⟩) n n) n (xs.map (Value.int .i64))) :
    Calls Try.prog 19 #[.pointer (some ⟨b, 0, none⟩), .slice (some ⟨g, 0, none⟩) n n] w fun e w' => ∃ r, e = .returned (.int .i64 r) ∧ r ∈ xs ∧ Dr B b w w' := by
  have hlen : xs.length = n := by have := hown.1; simpa using this
  go_enter Try.func19, Try.ntmps19
  go_wp2_with fail
  refine (l01Next_any B b (n : Int) _ h (by omega)).mono ?_
  rintro e w1 ⟨r, rfl, hr, hs, hc⟩
  have hr1 := hr.1
  have hr2 := hr.2.1 (by omega)
  obtain ⟨k, rfl⟩ := Int.eq_ofNat_of_zero_le hr1
  have hk : k < n := by omega
  have hown1 := own_keep (hi := w.heap.size) hown (fun q hq => (hown.lt q hq).2) hc (.inr (Nat.le_refl _))
  have hc1 : w1.cell? ⟨g, k, none⟩ = some (.int .i64 (gx xs k)) := by
    have := hown1.cellAt k (by omega)
    rwa [map_gx xs k (by omega)] at this
  have hi : 0 ≤ (k : Int) ∧ (k : Int) < (n : Int) := by omega
  clear hr hr1 hr2
  go_wp2
  go_ret
  exact ⟨_, rfl, gx_mem xs k (by omega), hs, hc⟩
theorem lit_own {w : World} {b : Nat} (hb : b < w.heap.size) (a : Array Value) (n : Nat) (hn : a.size = n) (hn9 : n ≤ 1000) :
    (w.alloc (.cells a 2)).ownsRow (b + 1) 2 1 (.slice (some ⟨w.heap.size, 0, none⟩) n n) n a.toList :=
  World.ownsRow_lit (base := b + 1) (e := 2) (size := 1) w a n hb (by unfold maxLen; omega) (by omega)
end WF
end Go.Proofs.Ytogkblncdpbhnaa
namespace Go.Proofs.Ytogkblncdpbhnaa
open Go.RowKit
set_option linter.unusedVariables false
namespace WF
open K Pl WA
theorem own_dr {w w' : World} {b lo n : Nat} {e : TypeId} {s : Nat} {v : Value} {xs : List Value} (h : w.ownsRow lo e s v n xs) (hc : Chg b (b + 1) w w') (hb : b < lo) : w'.ownsRow lo e s v n xs :=
  own_keep (hi := w.heap.size) h (fun q hq => (h.lt q hq).2) hc (.inr hb)
theorem chg_grow {b : Nat} {w w6 w7 : World} {row : Option Nat} (h : Chg b (b + 1) w w6) (o : Obj) (hg : (w6.alloc o).grownBy w7 row) (hrow : ∀ k, row = some k → w.heap.size ≤ k) : Chg b (b + 1) w w7 := by
  have h2 := h.trans (Chg.al w6 o)
  exact ⟨hg.os.trans h2.os, hg.tape.trans h2.tape, hg.output.trans h2.output, Nat.le_trans h2.size hg.size, fun k hk hn => (hg.block k (Nat.lt_of_lt_of_le hk h2.size) (fun e => by have := hrow k e.symm; omega)).trans (h2.block k hk hn)⟩
theorem src_grow {b B lo : Nat} {w6 w7 : World} {row : Option Nat} (h : Src w6 B b) (o : Obj) (hg : (w6.alloc o).grownBy w7 row) (hb : b < lo) (hrow : ∀ k, row = some k → lo ≤ k) : Src w7 B b := by
  have h2 := Src.al h o
  exact h2.keep (Chg.of_grown (lo := lo) (hi := w7.heap.size + lo + (row.getD 0) + 1) hg (fun k e => ⟨hrow k e, by rw [e]; simp; omega⟩)) (.inl hb) (.inl (by have := h.lt; omega))
end WF
end Go.Proofs.Ytogkblncdpbhnaa
