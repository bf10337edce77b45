/-
  WALKS, CHAPTER 2: binomials (printed by gen/genbin.py).
-/
import Derived.Test.YtbkbcpcdnclffaaWlkB11
import Derived.Test.YtbkbcpcdnclffaaPlQ
namespace Go.Proofs.Ytbkbcpcdnclffaa
open Go.RowKit
set_option linter.unusedVariables false
namespace WB
open K Pl WA WL
set_option maxHeartbeats 800000 in
theorem binomial_any (n : Nat) (w : World) (h1 : 1 ≤ n) (h2 : n ≤ 2000) :
    Calls Try.prog 47 #[.int .i64 (n : Int)] w (Li1 (binL n) w) := by
  have HN := Lib.hid (show (n : Int) + 1 = ((n + 1 : Nat) : Int) by omega)
  obtain ⟨N, hN⟩ : ∃ N, N = n + 1 := ⟨_, rfl⟩
  rw [← hN] at HN
  have hb : 0 ≤ (n : Int) ∧ (n : Int) < (N : Int) := by omega
  have hn0 : (n : Int).toNat = n := by omega
  obtain ⟨i0, hi, hz0, hz1, hz2⟩ := info_parts info64
  have Hi := Lib.hid hi; have Hz0 := Lib.hid hz0; have Hz1 := Lib.hid hz1; have Hz2 := Lib.hid hz2
  clear hi hz0 hz1 hz2
  have HNn := Lib.hid hN
  have hN1 : N ≤ 2001 := by omega
  have hN2 : n < N := by omega
  clear hN
  go_enter Try.func47, Try.ntmps47
  go_wp2_with (at_make; refine wpList_make_full _ rfl _ _ 24 rfl w.heap.size 2 i0 (.int .i64 0) 1 Try.underlying24 Hi.out Hz0.out Hz1.out _ _ _ _ N rfl rfl HN.out HN.out ?b ?c ?d ?_)
  case b => rw [Hz2.out]; omega
  case c => unfold maxLen; omega
  try (case d => simp)
  intro w1 hown hgrow
  have hbw : Below w.heap.size w w1 := (Below.refl _ _).grown hgrow (Nat.le_refl _) (by simp)
  have hown0 : w1.ownsRow w.heap.size 2 1 (.slice (some ⟨w.heap.size, 0, none⟩) N N) N ((List.replicate N (0 : Int)).map (Value.int .i64)) := by
    rw [List.map_replicate]
    have e : (madeCells (Value.int IntKind.i64 0).cells (N * 1)).toList = List.replicate N (Value.int .i64 0) := by
      rw [Nat.mul_one]; exact toList_madeCells_one _ N
    rw [← e, Nat.mul_one]; exact hown
  obtain ⟨hc1, hf1, hs1⟩ := mul_round (w := w) (j := 0) (-1) hown0 (by omega)
  obtain ⟨hc2, hf2, hs2⟩ := mul_round (w := w) (j := n) 1 hs1 (by omega)
  have Hs := Lib.hid hs2
  have Hb1 : Below w.heap.size w (w1.setCell ⟨w.heap.size, 0, none⟩ (.int .i64 (-1))) := hbw.setCell (Nat.le_refl _) _
  have Hb2 : Below w.heap.size w ((w1.setCell ⟨w.heap.size, 0, none⟩ (.int .i64 (-1))).setCell ⟨w.heap.size, n, none⟩ (.int .i64 1)) := Hb1.setCell (Nat.le_refl _) _
  have Hb := Lib.hid Hb2
  clear Hb1 Hb2
  clear hown hgrow hown0 hs1 hs2 hbw
  go_wp2
  go_ret
  exact ⟨_, rfl, by
    have e : binL n = ((List.replicate N 0).set 0 (-1)).set n 1 := by rw [HNn.out]; rfl
    rw [e]; exact Ow.of_own Hs.out, Hb.out⟩

set_option maxHeartbeats 800000 in
theorem l02Binomial_any (n : Nat) (w : World) (h1 : 1 ≤ n) (h2 : n ≤ 2000) :
    Calls Try.prog 42 #[.int .i64 (n : Int)] w (Li1 (binL n) w) := by
  have HN := Lib.hid (show (n : Int) + 1 = ((n + 1 : Nat) : Int) by omega)
  obtain ⟨N, hN⟩ : ∃ N, N = n + 1 := ⟨_, rfl⟩
  rw [← hN] at HN
  have hb : 0 ≤ (n : Int) ∧ (n : Int) < (N : Int) := by omega
  have hn0 : (n : Int).toNat = n := by omega
  obtain ⟨i0, hi, hz0, hz1, hz2⟩ := info_parts info64
  have Hi := Lib.hid hi; have Hz0 := Lib.hid hz0; have Hz1 := Lib.hid hz1; have Hz2 := Lib.hid hz2
  clear hi hz0 hz1 hz2
  have HNn := Lib.hid hN
  have hN1 : N ≤ 2001 := by omega
  have hN2 : n < N := by omega
  clear hN
  go_enter Try.func42, Try.ntmps42
  go_wp2_with (at_make; refine wpList_make_full _ rfl _ _ 24 rfl w.heap.size 2 i0 (.int .i64 0) 1 Try.underlying24 Hi.out Hz0.out Hz1.out _ _ _ _ N rfl rfl HN.out HN.out ?b ?c ?d ?_)
  case b => rw [Hz2.out]; omega
  case c => unfold maxLen; omega
  try (case d => simp)
  intro w1 hown hgrow
  have hbw : Below w.heap.size w w1 := (Below.refl _ _).grown hgrow (Nat.le_refl _) (by simp)
  have hown0 : w1.ownsRow w.heap.size 2 1 (.slice (some ⟨w.heap.size, 0, none⟩) N N) N ((List.replicate N (0 : Int)).map (Value.int .i64)) := by
    rw [List.map_replicate]
    have e : (madeCells (Value.int IntKind.i64 0).cells (N * 1)).toList = List.replicate N (Value.int .i64 0) := by
      rw [Nat.mul_one]; exact toList_madeCells_one _ N
    rw [← e, Nat.mul_one]; exact hown
  obtain ⟨hc1, hf1, hs1⟩ := mul_round (w := w) (j := 0) (-1) hown0 (by omega)
  obtain ⟨hc2, hf2, hs2⟩ := mul_round (w := w) (j := n) 1 hs1 (by omega)
  have Hs := Lib.hid hs2
  have Hb1 : Below w.heap.size w (w1.setCell ⟨w.heap.size, 0, none⟩ (.int .i64 (-1))) := hbw.setCell (Nat.le_refl _) _
  have Hb2 : Below w.heap.size w ((w1.setCell ⟨w.heap.size, 0, none⟩ (.int .i64 (-1))).setCell ⟨w.heap.size, n, none⟩ (.int .i64 1)) := Hb1.setCell (Nat.le_refl _) _
  have Hb := Lib.hid Hb2
  clear Hb1 Hb2
  clear hown hgrow hown0 hs1 hs2 hbw
  go_wp2
  go_ret
  exact ⟨_, rfl, by
    have e : binL n = ((List.replicate N 0).set 0 (-1)).set n 1 := by rw [HNn.out]; rfl
    rw [e]; exact Ow.of_own Hs.out, Hb.out⟩
end WB
end Go.Proofs.Ytbkbcpcdnclffaa
