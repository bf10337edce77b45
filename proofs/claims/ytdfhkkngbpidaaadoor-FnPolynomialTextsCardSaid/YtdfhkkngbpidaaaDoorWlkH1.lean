/-
  WALKS, DRAWS: the source with its state; a text that is damaged.
-/
import Derived.Test.YtdfhkkngbpidaaaDoorWlkF2
import Derived.Test.YtdfhkkngbpidaaaDoorKitW
import Derived.Test.YtdfhkkngbpidaaaDoorPlHb
namespace Go.Proofs.YtdfhkkngbpidaaaDoor
open Go.RowKit
set_option linter.unusedVariables false
namespace WF
open K Pl WA
/-- The source of a draw with its state: n bytes of a code, t of them taken, the hash. -/
structure SrcA (w : World) (B b n t h : Nat) : Prop where
  ex : ∃ v : Value, IsY w B v n ∧ w.cell? ⟨b, 0, none⟩ = some v
  c1 : w.cell? ⟨b, 1, none⟩ = some (.int .i64 (t : Int))
  c2 : w.cell? ⟨b, 2, none⟩ = some (.int .u64 (h : Int))
  le : t ≤ n
  f1 : w.frozen? ⟨b, 1, none⟩ = false
  f2 : w.frozen? ⟨b, 2, none⟩ = false
  lt : B ≤ b
section
variable {w w' : World} {B b n t h lo hi : Nat}
theorem SrcA.src (s : SrcA w B b n t h) : Src w B b := by
  obtain ⟨v, hv, h0⟩ := s.ex
  exact ⟨⟨v, n, t, h, hv, s.le, h0, s.c1, s.c2⟩, s.f1, s.f2, s.lt⟩
theorem SrcA.here (s : SrcA w B b n t h) : b < w.heap.size := s.src.here
theorem SrcA.keep (s : SrcA w B b n t h) (hc : Chg lo hi w w') (hd : b < lo ∨ hi ≤ b) (hB : B ≤ lo ∨ hi = 0) : SrcA w' B b n t h := by
  have hlt := s.here
  obtain ⟨v, hv, h0⟩ := s.ex
  have hl := s.lt
  have hfr : ∀ o, w'.frozen? ⟨b, o, none⟩ = w.frozen? ⟨b, o, none⟩ := fun o => World.frozen?_of_block (w := w) (hc.block b hlt (by omega))
  refine ⟨⟨v, hv.keep fun p hp => ?_, hc.cell h0 hd⟩, hc.cell s.c1 hd, hc.cell s.c2 hd, s.le, (hfr 1).trans s.f1, (hfr 2).trans s.f2, s.lt⟩
  exact World.cell?_of_block (w := w) (hc.block p.block (by omega) (by omega))
theorem SrcA.later (s : SrcA w B b n t h) (hb : Below w.heap.size w w') : SrcA w' B b n t h := s.keep (Chg.of_below hb) (.inr (Nat.zero_le _)) (.inr rfl)
theorem SrcA.al (s : SrcA w B b n t h) (o : Obj) : SrcA (w.alloc o) B b n t h := s.later ((Below.refl _ _).alloc (Nat.le_refl _) o)
end
theorem u64_nat (z : Int) : ∃ h : Nat, IntKind.u64.wrap z = (h : Int) := by
  rw [wrap_u64']
  exact ⟨(z % 18446744073709551616).toNat, by omega⟩
set_option maxHeartbeats 800000 in
theorem l01From_at (B : Nat) (v : Value) (n : Nat) (w : World) (h : IsY w B v n) (hB : B ≤ w.heap.size) :
    Calls Tryd.prog 21 #[v] w fun e w' => e = .returned (.pointer (some ⟨w.heap.size, 0, none⟩)) ∧ (∃ t h, SrcA w' B w.heap.size n t h) ∧ Below w.heap.size w w' := by
  have Hh := Lib.hid h
  obtain ⟨A, c, rfl, hnc, hcm, hrd⟩ := h
  unfold maxLen at hcm
  have hb1 : ∀ o, Below w.heap.size w (w.alloc o) := fun o => (Below.refl _ _).alloc (Nat.le_refl _) o
  go_enter Tryd.func21, Tryd.ntmps21
  go_wp2
  go_loopw [4] (fun i wr => ∃ k : Nat, k ≤ n ∧ i = .int .i64 (k : Int) ∧ (∃ x : Nat, wr.cell? ⟨w.heap.size, 2, none⟩ = some (.int .u64 (x : Int))) ∧ wr.cell? ⟨w.heap.size, 0, none⟩ = some (.slice A n c) ∧ wr.cell? ⟨w.heap.size, 1, none⟩ = some (.int .i64 ((0 : Nat) : Int)) ∧ wr.frozen? ⟨w.heap.size, 1, none⟩ = false ∧ wr.frozen? ⟨w.heap.size, 2, none⟩ = false ∧ Below w.heap.size w wr) (fun i _ => n - (intOf i).toNat)
  case atStart =>
    exact ⟨0, Nat.zero_le _, rfl, ⟨9341 + n, by simp [go_sem]⟩, by simp [go_sem], by simp [go_sem], by simp [go_sem], by simp [go_sem], hb1 _⟩
  case round =>
    obtain ⟨k, hk, rfl, ⟨x, hx⟩, h0, h1, f1, f2, hbe⟩ := hrel
    by_cases hlt : k < n
    · obtain ⟨ad, rfl, hab, hc⟩ := hrd (by omega)
      obtain ⟨y, hy, hy0, hy1⟩ := hc k hlt
      have hcy : wr.cell? (ad.add k) = some (.int .u8 y) := (hbe.cell (by rw [block_of_add]; omega)).trans hy
      have hi1 : 0 ≤ (k : Int) ∧ (k : Int) < (n : Int) := by omega
      clear hc
      by_cases h4 : k < 4096
      · have h4' : (k : Int) < 4096 := by omega
        go_wp2_with fail
        go_region
        go_wp2
        go_roundw
        case rel =>
          obtain ⟨x', hx'⟩ := u64_nat (IntKind.u64.wrap (IntKind.u64.wrap (x * 1099511628211) + y) + 11)
          rw [hx']
          exact ⟨k + 1, by omega, by go_num, ⟨x', World.cell?_setCell_same wr ⟨w.heap.size, 2, none⟩ _ hx⟩, (World.cell?_setCell_other wr ⟨w.heap.size, 2, none⟩ _ _ (by simp)).trans h0, (World.cell?_setCell_other wr ⟨w.heap.size, 2, none⟩ _ _ (by simp)).trans h1, by simpa [go_sem] using f1, by simpa [go_sem] using f2, (hbe.setCell (p := ⟨w.heap.size, 2, none⟩) (Nat.le_refl _) _).drew⟩
        case measure => first | (simp [intOf]; done) | (simp [intOf]; omega)
      · have h4' : ¬ (k : Int) < 4096 := by omega
        go_wp2
        go_ret
        exact ⟨rfl, ⟨0, x, ⟨⟨_, Hh.out.below (hbe.mono hB), h0⟩, h1, hx, Nat.zero_le _, f1, f2, hB⟩⟩, hbe⟩
    · go_wp2
      go_ret
      exact ⟨rfl, ⟨0, x, ⟨⟨_, Hh.out.below (hbe.mono hB), h0⟩, h1, hx, Nat.zero_le _, f1, f2, hB⟩⟩, hbe⟩
/-- How much of the code is taken behind g numbers more. -/
def tk (n t g : Nat) : Nat := min (t + g) n
theorem tk_tk (n t a b : Nat) : tk n (tk n t a) b = tk n t (a + b) := by unfold tk; omega
theorem tk_le (n t a : Nat) : tk n t a ≤ n := by unfold tk; omega
theorem tk_end (n a : Nat) : tk n n a = n := by unfold tk; omega
theorem nx_wrap (h : Nat) : IntKind.u64.wrap (IntKind.u64.wrap ((h : Int) * 6364136223846793005) + 1442695040888963407) = ((nx h : Nat) : Int) := by
  rw [wrap_u64', wrap_u64', nx_eq]; omega
theorem ou_bits (h : Nat) : wrap64 (bits .and .u64 ((h : Int) / 8589934592) 16777215) = ((ou h : Nat) : Int) := by
  have e : bits .and .u64 ((h : Int) / 8589934592) 16777215 = IntKind.u64.wrap ((BitVec.ofInt 64 ((h : Int) / 8589934592) &&& BitVec.ofInt 64 16777215).toNat : Int) := rfl
  have e1 : (h : Int) / 8589934592 = ((h / 8589934592 : Nat) : Int) := by omega
  have e2 : BitVec.ofInt 64 16777215 = BitVec.ofNat 64 (2 ^ 24 - 1) := by decide
  rw [e, e1, BitVec.ofInt_natCast, e2, BitVec.toNat_and, BitVec.toNat_ofNat, BitVec.toNat_ofNat, wrap_u64']
  rw [show (2 ^ 24 - 1) % 2 ^ 64 = 2 ^ 24 - 1 by decide, Nat.and_two_pow_sub_one_eq_mod, ou_eq]
  unfold wrap64
  omega
set_option maxHeartbeats 1600000 in
theorem l01Next_at (B b n t h : Nat) (m : Int) (w : World) (hs : SrcA w B b n t h) (hm1 : 1 ≤ m) (hm : m ≤ 9223372036854775807) :
    Calls Tryd.prog 30 #[.pointer (some ⟨b, 0, none⟩), .int .i64 m] w fun e w' => ∃ r : Int, e = .returned (.int .i64 r) ∧ (0 ≤ r ∧ r < m) ∧ (t = n → r = (ou (nx h) : Int) % m) ∧ SrcA w' B b n (tk n t 1) (itn 1 h) ∧ Chg b (b + 1) w w' := by
  have Hs := Lib.hid hs
  obtain ⟨⟨v, hv, h0⟩, h1, h2, ht, f1, f2, hl⟩ := hs
  have Hv := Lib.hid hv
  obtain ⟨A, c, rfl, hnc, hcm, hrd⟩ := hv
  unfold maxLen at hcm
  have hn0 : ¬ m = 0 := by omega
  have hn1 : ¬ m < 1 := by omega
  have hlt := Hs.out.here
  go_enter Tryd.func30, Tryd.ntmps30
  go_wp2_with fail
  rw [nx_wrap, ou_bits]
  obtain ⟨g, hg⟩ : ∃ g, Hid (nx h = g) := ⟨_, Lib.hid rfl⟩
  rw [hg.out]
  obtain ⟨z, hz⟩ : ∃ z, Hid (ou g = z) := ⟨_, Lib.hid rfl⟩
  have hzb : z ≤ 16777215 := by rw [← hz.out, ou_eq]; omega
  rw [hz.out]
  obtain ⟨w1, hw1⟩ : ∃ w1, w1 = w.setCell ⟨b, 2, none⟩ (.int .u64 (g : Int)) := ⟨_, rfl⟩
  rw [← hw1]
  generalize bits .and .u64 _ 16777215 = z2
  have k0 : w1.cell? ⟨b, 0, none⟩ = some (.slice A n c) := by rw [hw1]; exact (World.cell?_setCell_other w ⟨b, 2, none⟩ _ _ (by simp)).trans h0
  have k1 : w1.cell? ⟨b, 1, none⟩ = some (.int .i64 (t : Int)) := by rw [hw1]; exact (World.cell?_setCell_other w ⟨b, 2, none⟩ _ _ (by simp)).trans h1
  have k2 : w1.cell? ⟨b, 2, none⟩ = some (.int .u64 (g : Int)) := by rw [hw1]; exact World.cell?_setCell_same w ⟨b, 2, none⟩ _ h2
  have g1 : w1.frozen? ⟨b, 1, none⟩ = false := by rw [hw1]; simpa [go_sem] using f1
  have g2 : w1.frozen? ⟨b, 2, none⟩ = false := by rw [hw1]; simpa [go_sem] using f2
  have hch1 : Chg b (b + 1) w w1 := by rw [hw1]; exact Chg.setC (p := ⟨b, 2, none⟩) ⟨Nat.le_refl _, Nat.lt_succ_self _⟩ _
  have Hv1 := Lib.hid (Hv.out.keep (w' := w1) fun p hp => World.cell?_of_block (w := w) (hch1.block p.block (by omega) (by omega)))
  clear hw1 h0 h1 h2 f1 f2
  by_cases ht2 : t < n
  · obtain ⟨A', c', e', _, _, hrd1⟩ := Hv1.out
    cases e'
    obtain ⟨ad, rfl, hab, hc⟩ := hrd1 (by omega)
    obtain ⟨y, hy, hy0, hy1⟩ := hc t ht2
    have hi1 : 0 ≤ (t : Int) ∧ (t : Int) < (n : Int) := by omega
    have hpt : ((z : Int) + y).tmod m = ((z : Int) + y) % m := Int.tmod_eq_emod_of_nonneg (by omega)
    have hw64 : wrap64 y = y := by unfold wrap64; omega
    have hwzy : IntKind.i64.wrap ((z : Int) + y) = (z : Int) + y := IntWalk.i64_in _ (by omega)
    clear hc hrd1 hrd
    go_quiet (fail)
    obtain ⟨w2, hw2⟩ : ∃ w2, w2 = w1.drewN nq := ⟨_, rfl⟩
    rw [← hw2]
    have k0 : w2.cell? ⟨b, 0, none⟩ = some (.slice (some ad) n c) := by rw [hw2]; exact k0
    have k1 : w2.cell? ⟨b, 1, none⟩ = some (.int .i64 (t : Int)) := by rw [hw2]; exact k1
    have k2 : w2.cell? ⟨b, 2, none⟩ = some (.int .u64 (g : Int)) := by rw [hw2]; exact k2
    have g1 : w2.frozen? ⟨b, 1, none⟩ = false := by rw [hw2]; exact g1
    have g2 : w2.frozen? ⟨b, 2, none⟩ = false := by rw [hw2]; exact g2
    have hy : w2.cell? (ad.add t) = some (.int .u8 y) := by rw [hw2]; exact hy
    have hch2 : Chg b (b + 1) w w2 := by rw [hw2]; exact hch1.trans (Chg.drw _ _ _)
    have Hv2 := Lib.hid (show IsY w2 B (.slice (some ad) n c) n by rw [hw2]; exact Hv1.out.keep fun _ _ => rfl)
    clear hw2 hch1 Hv1
    go_wp2_with fail
    go_quiet (fail)
    obtain ⟨w3, hw3⟩ : ∃ w3, w3 = w2.drewN nq := ⟨_, rfl⟩
    rw [← hw3]
    have k0 : w3.cell? ⟨b, 0, none⟩ = some (.slice (some ad) n c) := by rw [hw3]; exact k0
    have k1 : w3.cell? ⟨b, 1, none⟩ = some (.int .i64 (t : Int)) := by rw [hw3]; exact k1
    have k2 : w3.cell? ⟨b, 2, none⟩ = some (.int .u64 (g : Int)) := by rw [hw3]; exact k2
    have g1 : w3.frozen? ⟨b, 1, none⟩ = false := by rw [hw3]; exact g1
    have g2 : w3.frozen? ⟨b, 2, none⟩ = false := by rw [hw3]; exact g2
    have hch3 : Chg b (b + 1) w w3 := by rw [hw3]; exact hch2.trans (Chg.drw _ _ _)
    have Hv3 := Lib.hid (show IsY w3 B (.slice (some ad) n c) n by rw [hw3]; exact Hv2.out.keep fun _ _ => rfl)
    clear hw3 hch2 Hv2
    have hmin := Lib.hid (show tk n t 1 = t + 1 by unfold tk; omega)
    go_wp2
    go_ret
    rw [hmin.out, itn_one, hg.out]
    exact ⟨_, rfl, ⟨Int.emod_nonneg _ hn0, Int.emod_lt_of_pos _ (by omega)⟩, fun he => absurd he (by omega),
      ⟨⟨.slice (some ad) n c, Hv3.out.keep fun p hp => Below.cell (B := b) ((Below.refl b w3).setCell (p := ⟨b, 1, none⟩) (Nat.le_refl _) _) (by omega), (World.cell?_setCell_other w3 ⟨b, 1, none⟩ _ _ (by simp)).trans k0⟩, World.cell?_setCell_same w3 ⟨b, 1, none⟩ _ k1, (World.cell?_setCell_other w3 ⟨b, 1, none⟩ _ _ (by simp)).trans k2, by omega, by simpa [go_sem] using g1, by simpa [go_sem] using g2, hl⟩,
      hch3.trans (Chg.setC (p := ⟨b, 1, none⟩) ⟨Nat.le_refl _, Nat.lt_succ_self _⟩ _)⟩
  · have hpt : (z : Int).tmod m = (z : Int) % m := Int.tmod_eq_emod_of_nonneg (by omega)
    have hge : ¬ (t : Int) < (n : Int) := by omega
    have hmin := Lib.hid (show tk n t 1 = t by unfold tk; omega)
    go_quiet (fail)
    go_wp2
    go_ret
    rw [hmin.out, itn_one, hg.out]
    exact ⟨_, rfl, ⟨Int.emod_nonneg _ hn0, Int.emod_lt_of_pos _ (by omega)⟩, fun _ => by rw [hz.out], ⟨⟨_, Hv1.out.keep fun _ _ => rfl, k0⟩, k1, k2, ht, g1, g2, hl⟩, hch1.trans (Chg.drw _ _ _)⟩
end WF
end Go.Proofs.YtdfhkkngbpidaaaDoor
