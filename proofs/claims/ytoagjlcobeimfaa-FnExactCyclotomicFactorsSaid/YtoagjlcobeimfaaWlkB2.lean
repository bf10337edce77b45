/-
  WALKS, CHAPTER 2: copies, the other order, zeros at the end.
-/
import Derived.Test.YtoagjlcobeimfaaWlkB1
import Derived.BigRegion
import Derived.Deep.QuietTactic
import Derived.BigQuiet
namespace Go.Proofs.Ytoagjlcobeimfaa
open Go.RowKit
set_option linter.unusedVariables false
namespace WB
open K Pl WA

/-- What a function that returns a list of numbers leaves. -/
def Li1 (xs : List Int) (w : World) (e : Ending) (w' : World) : Prop := ∃ v, e = .returned v ∧ Ow w' w.heap.size w'.heap.size v xs ∧ Below w.heap.size w w'
/-- A list of numbers and a code. -/
def Li2 (r : List Int × Int) (w : World) (e : Ending) (w' : World) : Prop := ∃ v, e = .returned (.tuple #[v, .int .i64 r.2]) ∧ Ow w' w.heap.size w'.heap.size v r.1 ∧ Below w.heap.size w w'
theorem Ow.nil (w : World) (lo hi : Nat) : Ow w lo hi (.slice none 0 0) [] := ⟨World.ownsRow_nil _ _ _ _, fun k hk => by simp [Value.ownBlock] at hk⟩
theorem Li2.nil {w w' : World} {c : Int} {r : List Int × Int} (hr : r = ([], c)) (h : Below w.heap.size w w') : Li2 r w (.returned (.tuple #[.slice none 0 0, .int .i64 c])) w' := by
  subst hr
  exact ⟨_, rfl, Ow.nil _ _ _, h⟩

theorem l01Own_any (B : Nat) (v : Value) (xs : List Int) (w : World) (h : Is w B v xs) (hB : B ≤ w.heap.size) (hn : xs.length < 1000000000) : Calls Try.prog 30 #[v] w (Li1 xs w) := by
  obtain ⟨A, n, c, rfl, hnc, hcm, hrd⟩ := h
  have hn' : n < 1000000000 := by rw [← hrd.len]; exact hn
  have hown0 : (w.alloc (.cells #[] 2)).ownsRow w.heap.size 2 1 (.slice (some ⟨w.heap.size, 0, none⟩) 0 0) ([] : List Int).length (([] : List Int).map (Value.int .i64)) := World.ownsRow_lit w #[] 0 (Nat.le_refl _) (by decide) rfl
  have hrd' : Rd (w.alloc (.cells #[] 2)) B A n xs := hrd.keep fun p hp => World.cell?_alloc_lt w _ p (by omega)
  clear hrd hn
  go_enter Try.func30, Try.ntmps30
  go_wp2_with (at_builtin; refine wp_append_ints rfl _ _ rfl w.heap.size _ [] rfl hown0 B A n c xs rfl hrd' (by simp; omega) (by simp) ?_)
  intro v' w2 hown2 hgrow
  have hbe : Below w.heap.size w w2 := ((Below.refl _ _).alloc (Nat.le_refl _) _).grown hgrow (by simp) (by simp [Value.ownBlock])
  clear hgrow hown0 hrd'
  go_wp2
  go_ret
  exact ⟨v', rfl, Ow.of_own (n := xs.length) (by simpa using hown2), hbe⟩
theorem Clone_any (B : Nat) (v : Value) (xs : List Int) (w : World) (h : Is w B v xs) (hB : B ≤ w.heap.size) (hn : xs.length < 1000000000) : Calls Try.prog 24 #[v] w (Li1 xs w) := by
  obtain ⟨A, n, c, rfl, hnc, hcm, hrd⟩ := h
  have hn' : n < 1000000000 := by rw [← hrd.len]; exact hn
  cases A with
  | none =>
    obtain rfl : n = 0 := by
      rcases Nat.eq_zero_or_pos n with h0 | h0
      · exact h0
      · obtain ⟨ad, e, _⟩ := hrd.pos h0
        cases e
    obtain rfl : xs = [] := List.eq_nil_of_length_eq_zero hrd.len
    have heq := fun W => Lib.run_eql_slice_nil (P := Try.prog) W 22 2 none 0 c 0 0 Try.underlying22
    go_enter Try.func24, Try.ntmps24
    go_wp2
    go_ret
    exact ⟨_, rfl, Ow.nil _ _ _, Below.refl _ _⟩
  | some ad =>
    have hown0 : (w.alloc (.cells #[] 2)).ownsRow w.heap.size 2 1 (.slice (some ⟨w.heap.size, 0, none⟩) 0 0) ([] : List Int).length (([] : List Int).map (Value.int .i64)) := World.ownsRow_lit w #[] 0 (Nat.le_refl _) (by decide) rfl
    have hrd' : Rd (w.alloc (.cells #[] 2)) B (some ad) n xs := hrd.keep fun p hp => World.cell?_alloc_lt w _ p (by omega)
    have heq := fun W => Lib.run_eql_slice_nil (P := Try.prog) W 22 2 (some ad) n c 0 0 Try.underlying22
    clear hrd hn
    go_enter Try.func24, Try.ntmps24
    go_wp2_with (at_builtin; refine wp_append_ints rfl _ _ rfl w.heap.size _ [] rfl hown0 B (some ad) n c xs rfl hrd' (by simp; omega) (by simp) ?_)
    intro v' w2 hown2 hgrow
    have hbe : Below w.heap.size w w2 := ((Below.refl _ _).alloc (Nat.le_refl _) _).grown hgrow (by simp) (by simp [Value.ownBlock])
    clear hgrow hown0 hrd'
    go_wp2
    go_ret
    exact ⟨v', rfl, Ow.of_own (n := xs.length) (by simpa using hown2), hbe⟩
set_option maxHeartbeats 400000 in
/-- A list of the call's own, without the zeros at its end: the same row, shorter. -/
theorem trimmed_any (lo hi : Nat) (v : Value) (xs : List Int) (w : World) (h : Ow w lo hi v xs) : Calls Try.prog 33 #[v] w fun e w' => ∃ v', e = .returned v' ∧ Ow w lo hi v' (trimL xs) ∧ w = w' := by
  rcases h.1.2 with ⟨rfl, h0⟩ | ⟨g, cap, cur, rfl, hlo, hgg, hnc, hcm, hcs, htk⟩
  · obtain rfl : xs = [] := List.eq_nil_of_length_eq_zero h0
    clear h h0
    go_enter Try.func33, Try.ntmps33
    go_wp2
    refine wp_loop_rounds 1 ?_
    rw [rounds_succ]
    go_wp2
    go_ret
    exact ⟨_, rfl, Ow.nil _ _ _, rfl⟩
  · have hghi : g < hi := h.2 g rfl
    have Hh := Lib.hid h.1
    clear h hcs htk hgg
    generalize hn : xs.length = n at *
    have Hn := Lib.hid hn; clear hn
    have hcm' : cap ≤ 9223372036854775807 := hcm
    clear hcm
    go_enter Try.func33, Try.ntmps33
    go_wp2
    go_loop [0] (fun u => ∃ k : Nat, k ≤ n ∧ u = .slice (some ⟨g, 0, none⟩) k cap ∧ Hid (trimL (xs.take k) = trimL xs)) (fun u => match u with | .slice _ m _ => m | _ => 0)
    case atStart => exact ⟨n, Nat.le_refl _, rfl, Lib.hid (by rw [List.take_of_length_le (by rw [Hn.out]; exact Nat.le_refl _)])⟩
    case round =>
      obtain ⟨k, hk, rfl, ht⟩ := hrel
      by_cases hk0 : 0 < k
      · obtain ⟨j, rfl⟩ : ∃ j, k = j + 1 := ⟨k - 1, by omega⟩
        have hc1 : w.cell? ⟨g, j, none⟩ = some (.int .i64 (gx xs j)) := by
          rw [Hh.out.cellAt j (by omega)]; exact map_gx xs j (by rw [Hn.out]; omega)
        by_cases hz : gx xs j = 0
        · have he : (gx xs j == 0) = true := by simp [hz]
          have Ht := Lib.hid (show trimL (xs.take j) = trimL xs by rw [← ht.out, trimL_take_zero xs j (by rw [Hn.out]; omega) hz])
          clear hz
          go_wp2
          go_round
          case rel => exact ⟨j, by omega, by first | rfl | simp, Ht⟩
          case measure => first | (simp; done) | (simp; omega)
        · have he : (gx xs j == 0) = false := by simp [hz]
          have Ht := Lib.hid (show xs.take (j + 1) = trimL xs by rw [← ht.out, trimL_take_stop xs j (by rw [Hn.out]; omega) hz])
          clear hz
          go_wp2
          go_ret
          refine ⟨_, rfl, ⟨?_, fun k' e => by cases e; exact hghi⟩, rfl⟩
          have e := own_short Hh.out hk
          rw [Ht.out] at e
          have hl : (trimL xs).length = j + 1 := by rw [← Ht.out]; simp; rw [Hn.out]; omega
          rw [hl]; exact e
      · obtain rfl : k = 0 := by omega
        have Ht := Lib.hid (show trimL xs = [] by rw [← ht.out]; simp [trimL])
        go_wp2
        go_ret
        refine ⟨_, rfl, ⟨?_, fun k' e => by cases e; exact hghi⟩, rfl⟩
        rw [Ht.out]
        simpa using own_short Hh.out (Nat.zero_le n)
end WB
end Go.Proofs.Ytoagjlcobeimfaa
