/-
  WALKS, CHAPTER 1: the steps of Euclid's algorithm.
-/
import Derived.Test.YtcnoaclijhcckaaKitR
import Derived.Test.YtcnoaclijhcckaaWlkA1
namespace Go.Proofs.Ytcnoaclijhcckaa
open Go.RowKit
set_option linter.unusedVariables false
namespace WA
open K Pl
theorem ow_lit2 (w : World) (a b : Int) (o : Obj) : Ow ((w.alloc (.cells #[.int .i64 a, .int .i64 b] 2)).alloc o) w.heap.size ((w.alloc (.cells #[.int .i64 a, .int .i64 b] 2)).alloc o).heap.size (.slice (some ⟨w.heap.size, 0, none⟩) 2 2) [a, b] := by
  have h : (w.alloc (.cells #[.int .i64 a, .int .i64 b] 2)).ownsRow w.heap.size 2 1 (.slice (some ⟨w.heap.size, 0, none⟩) 2 2) 2 [.int .i64 a, .int .i64 b] := World.ownsRow_lit w #[.int .i64 a, .int .i64 b] 2 (Nat.le_refl _) (by decide) rfl
  exact ⟨h.alloc o, fun k hk => by simp [Value.ownBlock] at hk; simp; omega⟩
theorem steps_cast (x y : Nat) (h : 0 < y) : steps x y = [(x : Int) / (y : Int), (y : Int)] :: steps y (x % y) := by
  rw [steps_pos x y h, Int.natCast_ediv]
theorem Chg.drewN {w : World} (n : Nat) : Chg 0 0 w (w.drewN n) := ⟨rfl, rfl, rfl, Nat.le_refl _, fun _ _ _ => rfl⟩
set_option maxHeartbeats 800000 in
theorem steps_any (x0 y0 : Nat) (w : World) (hx : x0 ≤ 1000000000) (hy : y0 ≤ 1000000000) : Calls Try.prog 64 #[.int .i64 (x0 : Int), .int .i64 (y0 : Int)] w fun e w' => ∃ v, e = .returned v ∧ OwR w' w.heap.size w'.heap.size v (steps x0 y0) ∧ Below w.heap.size w w' := by
  have h0 := OwU.lit w (lo := w.heap.size) (Nat.le_refl _)
  have hb0 : Below w.heap.size w (w.alloc (.cells #[] 24)) := (Below.refl _ _).alloc (Nat.le_refl _) _
  have Hl := Lib.hid (steps_len y0 x0 y0 (Nat.le_refl _))
  go_enter Try.func64, Try.ntmps64
  go_wp2
  go_loopw [0, 1, 5] (fun s t v wr => ∃ (x y : Nat) (us : List Value) (acc : List (List Int)) (n : Nat), s = .int .i64 x ∧ t = .int .i64 y ∧ x ≤ 1000000000 ∧ y ≤ 1000000000 ∧ Hid (acc.length = n) ∧ n ≤ 1000000000 ∧ Hid (acc ++ steps x y = steps x0 y0) ∧ Hid (OwU wr w.heap.size wr.heap.size v us acc) ∧ Below w.heap.size w wr) (fun _ t _ _ => (intOf t).toNat)
  case atStart => exact ⟨x0, y0, [], [], 0, rfl, rfl, hx, hy, Lib.hid rfl, by omega, Lib.hid rfl, Lib.hid (by simpa using h0), hb0⟩
  case round =>
    clear h0 hb0
    obtain ⟨x, y, us, acc, n, rfl, rfl, hx, hy, hn, hn9, hst, how, hbe⟩ := hrel
    obtain ⟨A, c, rfl, hnc, hcm⟩ := own_shape how.out.row
    rw [hn.out]
    rw [hn.out] at hnc
    by_cases hp : 0 < y
    · have Hstep := Lib.hid (show (acc ++ [[(x : Int) / (y : Int), (y : Int)]]) ++ steps y (x % y) = steps x0 y0 by
        rw [← hst.out, steps_cast x y hp]; simp)
      have hnn : n + 1 ≤ 1000000000 := by
        have e := congrArg List.length Hstep.out
        have := Hl.out
        have := hn.out
        simp at e; omega
      have hlt : x % y < y := Nat.mod_lt _ hp
      have hq : 0 ≤ (x : Int) / (y : Int) := Int.ediv_nonneg (by omega) (by omega)
      have hq' : (x : Int) / (y : Int) ≤ 1000000000 := Int.le_trans (Int.ediv_le_self _ (by omega)) (by omega)
      have hm : 0 ≤ (x : Int) % (y : Int) := Int.emod_nonneg _ (by omega)
      have hm' : (x : Int) % (y : Int) < (y : Int) := Int.emod_lt_of_pos _ (by omega)
      have hrow : wr.ownsRow w.heap.size 24 1 (.slice A n c) n us := by have h := how.out.row; rw [hn.out] at h; exact h
      go_wp2_with (at_builtin; refine wp_append_row rfl _ _ rfl w.heap.size _ n us rfl ((hrow.alloc _).alloc _) (wr.heap.size + 1) (some ⟨wr.heap.size, 0, none⟩) 2 2 1 rfl (by simp) (by omega) (by have := hbe.size; simp; omega) ?_)
      intro v' w2 hown2 hgrow hat
      have how2 := Lib.hid (OwU.snoc (ys := [(x : Int) / (y : Int), (y : Int)]) how.out (Nat.le_refl _) hbe.size (((Below.refl _ _).alloc (Nat.le_refl _) _).alloc (by simp) _) (ow_lit2 wr _ _ _) (by rw [hn.out]; exact hown2) (by rw [hn.out]; exact hgrow) (by rw [hn.out]; simp only [World.size_alloc]; exact hat))
      have hbe2 : Below w.heap.size w w2 := (hbe.trans ((((Below.refl _ _).alloc (Nat.le_refl _) _).alloc (by simp) _).mono hbe.size)).grown hgrow (by have := hbe.size; simp; omega) (fun k hk => (hrow.lt k hk).1)
      clear hown2 hgrow hat hrow how
      obtain ⟨A', c', rfl, hnc', hcm'⟩ := own_shape how2.out.row
      go_wp2
      go_quiet (fail)
      go_wp2
      go_roundw
      case rel => exact ⟨y, x % y, _, _, n + 1, rfl, by rw [Int.natCast_emod], hy, by omega, Lib.hid (by simp [hn.out]), hnn, Hstep, Lib.hid (how2.out.keep (Chg.drewN _) (.inr (Nat.zero_le _))), below_drewN hbe2 _⟩
      case measure => simp [intOf]; omega
    · obtain rfl : y = 0 := by omega
      have Hres := Lib.hid (show acc = steps x0 y0 by rw [← hst.out, steps_zero]; simp)
      go_wp2
      go_ret
      exact ⟨_, rfl, ⟨us, by rw [← Hres.out]; have h := how.out; rw [hn.out] at h; exact h⟩, hbe⟩
end WA
end Go.Proofs.Ytcnoaclijhcckaa
