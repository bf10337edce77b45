/-
  WALKS, CHAPTER 2: powers in place of the variable.
-/
import Derived.Test.YtogkblncdpbhnaaWlkBA
namespace Go.Proofs.Ytogkblncdpbhnaa
open Go.RowKit
set_option linter.unusedVariables false
namespace WB
open K Pl WA
set_option maxHeartbeats 1600000 in
theorem l02Spread_any (B : Nat) (v : Value) (xs : List Int) (k : Nat) (w : World) (h : Is w B v xs) (hB : B ≤ w.heap.size) (hk1 : 0 < k) (hk2 : k ≤ 10000) (hn : xs.length ≤ 10000) :
    Calls Try.prog 47 #[v, .int .i64 (k : Int)] w (Li1 (spread xs k) w) := by
  obtain ⟨A, n, c, rfl, hnc, hcm, hrd⟩ := h
  have Hlen := Lib.hid hrd.len
  have hn' : n ≤ 10000 := by rw [← hrd.len]; exact hn
  unfold maxLen at hcm
  clear hn
  by_cases h0 : n = 0
  · have H0 := Lib.hid (show spread xs k = [] by unfold spread; rw [Hlen.out, if_pos h0])
    have he : ((n : Int) == 0) = true := by simp; omega
    have hown0 : (w.alloc (.cells #[] 2)).ownsRow w.heap.size 2 1 (.slice (some ⟨w.heap.size, 0, none⟩) 0 0) 0 (([] : List Int).map (Value.int .i64)) := World.ownsRow_lit w #[] 0 (Nat.le_refl _) (by decide) rfl
    clear h0
    go_enter Try.func47, Try.ntmps47
    go_wp2
    go_ret
    exact ⟨_, rfl, by rw [H0.out]; exact Ow.of_own hown0, (Below.refl _ _).alloc (Nat.le_refl _) _⟩
  · have he : ((n : Int) == 0) = false := by simp; omega
    have hn1 : 1 ≤ n := by omega
    obtain ⟨N, hNe⟩ : ∃ N, N = (n - 1) * k + 1 := ⟨_, rfl⟩
    have hNb : N ≤ 100000001 := by
      have : (n - 1) * k ≤ 10000 * 10000 := Nat.mul_le_mul (by omega) hk2
      omega
    have hN1 : ((n : Int) - 1) * (k : Int) = (N : Int) - 1 := by
      rw [hNe, Int.natCast_add, Int.natCast_mul, Int.natCast_sub hn1]; simp
    have hmb : 0 ≤ ((n : Int) - 1) * (k : Int) ∧ ((n : Int) - 1) * (k : Int) ≤ 100000000 := by rw [hN1]; omega
    have hN : ((n : Int) - 1) * (k : Int) + 1 = (N : Int) := by rw [hN1]; omega
    have HjN := Lib.hid (show ∀ j, j < n → j * k < N from fun j hj => by
      have : j * k ≤ (n - 1) * k := Nat.mul_le_mul_right _ (by omega)
      omega)
    have Hall := Lib.hid (show (spr xs k N n) = spread xs k by
      have e := spr_all xs k hk1 (by rw [Hlen.out]; omega)
      rw [Hlen.out, ← hNe] at e; exact e)
    have HN1 := Lib.hid hN1; have HN := Lib.hid hN; have HNe := Lib.hid hNe
    clear hN1 hNe h0
    obtain ⟨i0, hi, hz0, hz1, hz2⟩ := info_parts info64
    have Hi := Lib.hid hi; have Hz0 := Lib.hid hz0; have Hz1 := Lib.hid hz1; have Hz2 := Lib.hid hz2
    clear hi hz0 hz1 hz2 hN
    go_enter Try.func47, Try.ntmps47
    go_wp2_with (at_make; refine wpList_make_full _ rfl _ _ 24 rfl w.heap.size 2 i0 (.int .i64 0) 1 Try.underlying24 Hi.out Hz0.out Hz1.out _ _ _ _ N rfl rfl HN.out HN.out ?b ?c ?d ?_)
    case b => rw [Hz2.out]; omega
    case c => unfold maxLen; omega
    case d => simp
    intro w1 hown hgrow
    have hbw : Below w.heap.size w w1 := (Below.refl _ _).grown hgrow (Nat.le_refl _) (by simp)
    have hown0 : w1.ownsRow w.heap.size 2 1 (.slice (some ⟨w.heap.size, 0, none⟩) N N) N ((spr xs k N 0).map (Value.int .i64)) := by
      rw [spr_zero, List.map_replicate]
      have e : (madeCells (Value.int IntKind.i64 0).cells (N * 1)).toList = List.replicate N (Value.int .i64 0) := by
        rw [Nat.mul_one]; exact toList_madeCells_one _ N
      rw [← e, Nat.mul_one]; exact hown
    clear hown hgrow
    go_wp2
    go_loopw [6] (fun i wr => ∃ j : Nat, j ≤ n ∧ i = .int .i64 j ∧ Hid (wr.ownsRow w.heap.size 2 1 (.slice (some ⟨w.heap.size, 0, none⟩) N N) N ((spr xs k N j).map (Value.int .i64))) ∧ Below w.heap.size w wr) (fun i _ => n - (intOf i).toNat)
    case atStart => exact ⟨0, Nat.zero_le _, rfl, Lib.hid hown0, hbw⟩
    case round =>
      obtain ⟨j, hj, rfl, hown, hbe⟩ := hrel
      clear hown0 hbw
      by_cases hlt : j < n
      · obtain ⟨ad, rfl, hab, hc⟩ := hrd.pos (by omega)
        have hc1 : wr.cell? (ad.add j) = some (.int .i64 (gx xs j)) := (hbe.cell (by rw [block_of_add]; omega)).trans (hc j hlt)
        have hjk : j * k < N := HjN.out j hlt
        have hjc : (j : Int) * (k : Int) = ((j * k : Nat) : Int) := by rw [Int.natCast_mul]
        have hi1 : 0 ≤ (j : Int) * (k : Int) ∧ (j : Int) * (k : Int) < (N : Int) := by rw [hjc]; omega
        have hfr := hown.out.frozenAt (j * k)
        obtain ⟨old, hold⟩ : ∃ old, wr.cell? ⟨w.heap.size, j * k, none⟩ = some old := by
          rw [hown.out.cellAt (j * k) (by omega)]
          exact ⟨_, List.getElem?_eq_getElem (by simp [spr_len]; exact hjk)⟩
        have hst := hown.out.stored (j * k) (.int .i64 (gx xs j))
        have Hst := Lib.hid (show (wr.setCell ⟨w.heap.size, j * k, none⟩ (.int .i64 (gx xs j))).ownsRow w.heap.size 2 1 (.slice (some ⟨w.heap.size, 0, none⟩) N N) N ((spr xs k N (j + 1)).map (Value.int .i64)) by
          have e := hst.1
          rw [← List.map_set, spr_step xs k N j hk1] at e; exact e)
        have hbe2 : Below w.heap.size w (wr.setCell ⟨w.heap.size, j * k, none⟩ (.int .i64 (gx xs j))) := hbe.setCell (Nat.le_refl _) _
        have Hjc := Lib.hid hjc
        clear hst hc hown hbe hjc
        go_wp2
        go_roundw
        case rel => exact ⟨j + 1, by omega, by go_num, Hst, hbe2⟩
        case measure => first | (simp [intOf]; done) | (simp [intOf]; omega)
      · have hjn : j = n := by omega
        subst hjn
        go_wp2
        go_ret
        refine ⟨_, rfl, ?_, hbe⟩
        rw [← Hall.out]; exact Ow.of_own hown.out
end WB
end Go.Proofs.Ytogkblncdpbhnaa
