/-
  WALKS, CHAPTER 2: copies, the other order, zeros at the end.
-/
import Derived.Test.YtdfhkkngbpidaaaDoorWlkB1
import Derived.BigRegion
import Derived.Deep.QuietTactic
import Derived.BigQuiet
namespace Go.Proofs.YtdfhkkngbpidaaaDoor
open Go.RowKit
set_option linter.unusedVariables false
namespace WB
open K Pl WA

/-- What a function that returns a list of numbers leaves. -/
def Li1 (xs : List Int) (w : World) (e : Ending) (w' : World) : Prop := ∃ v, e = .returned v ∧ Ow w' w.heap.size w'.heap.size v xs ∧ Below w.heap.size w w'
/-- A list of numbers and a code. -/
def Li2 (r : List Int × Int) (w : World) (e : Ending) (w' : World) : Prop := ∃ v, e = .returned (.tuple #[v, .int .i64 r.2]) ∧ Ow w' w.heap.size w'.heap.size v r.1 ∧ Below w.heap.size w w'
theorem Ow.nil (w : World) (lo hi : Nat) : Ow w lo hi (.slice none 0 0) [] := ⟨World.ownsRow_nil _ _ _ _, fun k hk => by simp [Value.ownBlock] at hk⟩
theorem Li2.nil {w w' : World} {c : Int} {r : List Int × Int} (hr : r = ([], c)) (h : Below w.heap.size w w') : Li2 r w (.returned (.tuple #[.slice none 0 0, .int .i64 c])) w' := by
  subst hr
  exact ⟨_, rfl, Ow.nil _ _ _, h⟩

theorem l01Own_any (B : Nat) (v : Value) (xs : List Int) (w : World) (h : Is w B v xs) (hB : B ≤ w.heap.size) (hn : xs.length < 1000000000) : Calls Tryd.prog 49 #[v] w (Li1 xs w) := by
  obtain ⟨A, n, c, rfl, hnc, hcm, hrd⟩ := h
  have hn' : n < 1000000000 := by rw [← hrd.len]; exact hn
  have hown0 : (w.alloc (.cells #[] 2)).ownsRow w.heap.size 2 1 (.slice (some ⟨w.heap.size, 0, none⟩) 0 0) ([] : List Int).length (([] : List Int).map (Value.int .i64)) := World.ownsRow_lit w #[] 0 (Nat.le_refl _) (by decide) rfl
  have hrd' : Rd (w.alloc (.cells #[] 2)) B A n xs := hrd.keep fun p hp => World.cell?_alloc_lt w _ p (by omega)
  clear hrd hn
  go_enter Tryd.func49, Tryd.ntmps49
  go_wp2_with (at_builtin; refine wp_append_ints rfl _ _ rfl w.heap.size _ [] rfl hown0 B A n c xs rfl hrd' (by simp; omega) (by simp) ?_)
  intro v' w2 hown2 hgrow
  have hbe : Below w.heap.size w w2 := ((Below.refl _ _).alloc (Nat.le_refl _) _).grown hgrow (by simp) (by simp [Value.ownBlock])
  clear hgrow hown0 hrd'
  go_wp2
  go_ret
  exact ⟨v', rfl, Ow.of_own (n := xs.length) (by simpa using hown2), hbe⟩
theorem Clone_any (B : Nat) (v : Value) (xs : List Int) (w : World) (h : Is w B v xs) (hB : B ≤ w.heap.size) (hn : xs.length < 1000000000) : Calls Tryd.prog 27 #[v] w (Li1 xs w) := by
  obtain ⟨A, n, c, rfl, hnc, hcm, hrd⟩ := h
  have hn' : n < 1000000000 := by rw [← hrd.len]; exact hn
  cases A with
  | none =>
    obtain rfl : n = 0 := by
      rcases Nat.eq_zero_or_pos n with h0 | h0
      · exact h0
      · obtain ⟨ad, e, _⟩ := hrd.pos h0
        cases e
    obtain rfl : xs = [] := List.eq_nil_of_length_eq_zero hrd.len
    have heq := fun W => Lib.run_eql_slice_nil (P := Tryd.prog) W 24 2 none 0 c 0 0 Tryd.underlying24
    go_enter Tryd.func27, Tryd.ntmps27
    go_wp2
    go_ret
    exact ⟨_, rfl, Ow.nil _ _ _, Below.refl _ _⟩
  | some ad =>
    have hown0 : (w.alloc (.cells #[] 2)).ownsRow w.heap.size 2 1 (.slice (some ⟨w.heap.size, 0, none⟩) 0 0) ([] : List Int).length (([] : List Int).map (Value.int .i64)) := World.ownsRow_lit w #[] 0 (Nat.le_refl _) (by decide) rfl
    have hrd' : Rd (w.alloc (.cells #[] 2)) B (some ad) n xs := hrd.keep fun p hp => World.cell?_alloc_lt w _ p (by omega)
    have heq := fun W => Lib.run_eql_slice_nil (P := Tryd.prog) W 24 2 (some ad) n c 0 0 Tryd.underlying24
    clear hrd hn
    go_enter Tryd.func27, Tryd.ntmps27
    go_wp2_with (at_builtin; refine wp_append_ints rfl _ _ rfl w.heap.size _ [] rfl hown0 B (some ad) n c xs rfl hrd' (by simp; omega) (by simp) ?_)
    intro v' w2 hown2 hgrow
    have hbe : Below w.heap.size w w2 := ((Below.refl _ _).alloc (Nat.le_refl _) _).grown hgrow (by simp) (by simp [Value.ownBlock])
    clear hgrow hown0 hrd'
    go_wp2
    go_ret
    exact ⟨v', rfl, Ow.of_own (n := xs.length) (by simpa using hown2), hbe⟩
theorem rev_step (xs : List Int) (k : Nat) (h : k < xs.length) : (xs.drop (k + 1)).reverse ++ [gx xs k] = (xs.drop k).reverse := by
  rw [drop_gx xs k h]; simp
set_option maxHeartbeats 400000 in
theorem l02Reverse_any (B : Nat) (v : Value) (xs : List Int) (w : World) (h : Is w B v xs) (hB : B ≤ w.heap.size) (hn : xs.length < 1000000000) : Calls Tryd.prog 40 #[v] w (Li1 xs.reverse w) := by
  obtain ⟨A, n, c, rfl, hnc, hcm, hrd⟩ := h
  have Hlen := Lib.hid hrd.len
  have hn' : n < 1000000000 := by rw [← hrd.len]; exact hn
  unfold maxLen at hcm
  clear hn
  have hown0 : (w.alloc (.cells #[] 2)).ownsRow w.heap.size 2 1 (.slice (some ⟨w.heap.size, 0, none⟩) 0 0) ([] : List Int).length (([] : List Int).map (Value.int .i64)) := World.ownsRow_lit w #[] 0 (Nat.le_refl _) (by decide) rfl
  have hbe0 : Below w.heap.size w (w.alloc (.cells #[] 2)) := (Below.refl _ _).alloc (Nat.le_refl _) _
  go_enter Tryd.func40, Tryd.ntmps40
  go_wp2
  go_loopw [3, 4] (fun u i wr => ∃ (k : Nat) (z : Int), k ≤ n ∧ i = .int .i64 z ∧ Hid (z + 1 = k) ∧ Hid (wr.ownsRow w.heap.size 2 1 u (xs.drop k).reverse.length ((xs.drop k).reverse.map (Value.int .i64))) ∧ Below w.heap.size w wr) (fun _ i _ => (intOf i + 1).toNat)
  case atStart =>
    refine ⟨n, _, Nat.le_refl _, rfl, Lib.hid (by omega), Lib.hid ?_, hbe0⟩
    rw [List.drop_of_length_le (by rw [Hlen.out]; exact Nat.le_refl _)]; exact hown0
  case round =>
    clear hown0 hbe0
    obtain ⟨k, z, hk, rfl, hz, hown, hbe⟩ := hrel
    by_cases hk0 : 0 < k
    · obtain ⟨j, rfl⟩ : ∃ j, k = j + 1 := ⟨k - 1, by omega⟩
      obtain rfl : z = (j : Int) := by have := hz.out; omega
      obtain ⟨ad, rfl, hab, hc⟩ := hrd.pos (by omega)
      have hc1 : wr.cell? (ad.add j) = some (.int .i64 (gx xs j)) := (hbe.cell (by rw [block_of_add]; omega)).trans (hc j (by omega))
      have hi1 : 0 ≤ (j : Int) ∧ (j : Int) < (n : Int) := by omega
      have Hst := Lib.hid (rev_step xs j (by rw [Hlen.out]; omega))
      have hlen2 : (xs.drop (j + 1)).reverse.length < 1000000000 := by simp; rw [Hlen.out]; omega
      clear hc
      have hsz := hbe.size
      generalize hacc : (xs.drop (j + 1)).reverse = acc at *
      have Hacc := Lib.hid hacc; clear hacc
      go_wp2_with (at_builtin; refine wp_append_int rfl _ _ rfl w.heap.size _ acc rfl (hown.out.alloc _) wr.heap.size (gx xs j) 1 rfl (by simp) (by omega) (by simp; omega) ?_)
      intro v' w2 hown2 hgrow
      have hbe2 := below_append hbe hbe.size hown.out (Nat.le_refl _) hgrow
      have Hown2 := Lib.hid hown2
      clear hown2 hgrow hown
      go_wp2
      go_roundw
      case rel => exact ⟨j, _, by omega, rfl, Lib.hid (by omega), Lib.hid (by have e := Hown2.out; rw [← Hst.out]; simpa using e), hbe2⟩
      case measure => first | (simp [intOf]; done) | (simp [intOf]; omega)
    · obtain rfl : k = 0 := by omega
      obtain rfl : z = -1 := by have := hz.out; omega
      go_wp2
      go_ret
      exact ⟨_, rfl, Ow.of_own (n := xs.reverse.length) (by simpa using hown.out), hbe⟩
set_option maxHeartbeats 400000 in
/-- A list of the call's own, without the zeros at its end: the same row, shorter. -/
theorem trimmed_any (lo hi : Nat) (v : Value) (xs : List Int) (w : World) (h : Ow w lo hi v xs) : Calls Tryd.prog 28 #[v] w fun e w' => ∃ v', e = .returned v' ∧ Ow w lo hi v' (trimL xs) ∧ w = w' := by
  rcases h.1.2 with ⟨rfl, h0⟩ | ⟨g, cap, cur, rfl, hlo, hgg, hnc, hcm, hcs, htk⟩
  · obtain rfl : xs = [] := List.eq_nil_of_length_eq_zero h0
    clear h h0
    go_enter Tryd.func28, Tryd.ntmps28
    go_wp2
    refine wp_loop_rounds 1 ?_
    rw [rounds_succ]
    go_wp2
    go_ret
    exact ⟨_, rfl, Ow.nil _ _ _, rfl⟩
  · have hghi : g < hi := h.2 g rfl
    have Hh := Lib.hid h.1
    clear h hcs htk hgg
    generalize hn : xs.length = n at *
    have Hn := Lib.hid hn; clear hn
    have hcm' : cap ≤ 9223372036854775807 := hcm
    clear hcm
    go_enter Tryd.func28, Tryd.ntmps28
    go_wp2
    go_loop [0] (fun u => ∃ k : Nat, k ≤ n ∧ u = .slice (some ⟨g, 0, none⟩) k cap ∧ Hid (trimL (xs.take k) = trimL xs)) (fun u => match u with | .slice _ m _ => m | _ => 0)
    case atStart => exact ⟨n, Nat.le_refl _, rfl, Lib.hid (by rw [List.take_of_length_le (by rw [Hn.out]; exact Nat.le_refl _)])⟩
    case round =>
      obtain ⟨k, hk, rfl, ht⟩ := hrel
      by_cases hk0 : 0 < k
      · obtain ⟨j, rfl⟩ : ∃ j, k = j + 1 := ⟨k - 1, by omega⟩
        have hc1 : w.cell? ⟨g, j, none⟩ = some (.int .i64 (gx xs j)) := by
          rw [Hh.out.cellAt j (by omega)]; exact map_gx xs j (by rw [Hn.out]; omega)
        by_cases hz : gx xs j = 0
        · have he : (gx xs j == 0) = true := by simp [hz]
          have Ht := Lib.hid (show trimL (xs.take j) = trimL xs by rw [← ht.out, trimL_take_zero xs j (by rw [Hn.out]; omega) hz])
          clear hz
          go_wp2
          go_round
          case rel => exact ⟨j, by omega, by first | rfl | simp, Ht⟩
          case measure => first | (simp; done) | (simp; omega)
        · have he : (gx xs j == 0) = false := by simp [hz]
          have Ht := Lib.hid (show xs.take (j + 1) = trimL xs by rw [← ht.out, trimL_take_stop xs j (by rw [Hn.out]; omega) hz])
          clear hz
          go_wp2
          go_ret
          refine ⟨_, rfl, ⟨?_, fun k' e => by cases e; exact hghi⟩, rfl⟩
          have e := own_short Hh.out hk
          rw [Ht.out] at e
          have hl : (trimL xs).length = j + 1 := by rw [← Ht.out]; simp; rw [Hn.out]; omega
          rw [hl]; exact e
      · obtain rfl : k = 0 := by omega
        have Ht := Lib.hid (show trimL xs = [] by rw [← ht.out]; simp [trimL])
        go_wp2
        go_ret
        refine ⟨_, rfl, ⟨?_, fun k' e => by cases e; exact hghi⟩, rfl⟩
        rw [Ht.out]
        simpa using own_short Hh.out (Nat.zero_le n)
/-- The first k and the last k numbers exchanged. -/
def revk (xs : List Int) (k : Nat) : List Int := (List.range xs.length).map fun i => if i < k ∨ xs.length ≤ i + k then gx xs (xs.length - 1 - i) else gx xs i
theorem revk_len (xs : List Int) (k : Nat) : (revk xs k).length = xs.length := by simp [revk]
theorem gx_revk (xs : List Int) (k i : Nat) (h : i < xs.length) : gx (revk xs k) i = if i < k ∨ xs.length ≤ i + k then gx xs (xs.length - 1 - i) else gx xs i := by
  rw [gx_eq _ _ (by rw [revk_len]; exact h)]; simp [revk]
theorem revk_zero (xs : List Int) : revk xs 0 = xs := by
  apply gx_ext _ _ (revk_len xs 0)
  intro i hi
  rw [revk_len] at hi
  rw [gx_revk xs 0 i hi, if_neg (by omega)]
theorem revk_all (xs : List Int) (k : Nat) (h : xs.length ≤ 2 * k + 1) : revk xs k = xs.reverse := by
  apply gx_ext _ _ (by rw [revk_len]; simp)
  intro i hi
  rw [revk_len] at hi
  rw [gx_revk xs k i hi, gx_reverse xs i hi]
  split
  · rfl
  · congr 1; omega
theorem gx_set (xs : List Int) (k i : Nat) (u : Int) (h : i < xs.length) : gx (xs.set k u) i = if k = i then u else gx xs i := by
  rw [gx_eq _ _ (by simpa using h), List.getElem_set, gx_eq xs i h]
theorem revk_step (xs : List Int) (k : Nat) (h : 2 * k + 1 < xs.length) : ((revk xs k).set k (gx xs (xs.length - 1 - k))).set (xs.length - 1 - k) (gx xs k) = revk xs (k + 1) := by
  apply gx_ext _ _ (by simp [revk_len])
  intro i hi
  simp [revk_len] at hi
  rw [gx_set _ _ _ _ (by simp [revk_len]; exact hi), gx_set _ _ _ _ (by rw [revk_len]; exact hi), gx_revk xs k i hi, gx_revk xs (k + 1) i hi]
  by_cases h1 : xs.length - 1 - k = i
  · rw [if_pos h1, if_pos (by omega)]; congr 1; omega
  · rw [if_neg h1]
    by_cases h2 : k = i
    · subst h2; rw [if_pos rfl, if_pos (by omega)]
    · rw [if_neg h2]
      by_cases h3 : i < k ∨ xs.length ≤ i + k
      · rw [if_pos h3, if_pos (by omega)]
      · rw [if_neg h3, if_neg (by omega)]

set_option maxHeartbeats 1600000 in
theorem Reverse_any (lo hi : Nat) (v : Value) (xs : List Int) (w : World) (h : Ow w lo hi v xs) : Calls Tryd.prog 50 #[v] w fun e w' => e = .returned (.tuple #[]) ∧ Ow w' lo hi v xs.reverse ∧ Chg lo hi w w' := by
  rcases h.1.2 with ⟨rfl, h0⟩ | ⟨g, cap, cur, rfl, hlo, hgg, hnc, hcm, hcs, htk⟩
  · obtain rfl : xs = [] := List.eq_nil_of_length_eq_zero h0
    clear h h0
    go_enter Tryd.func50, Tryd.ntmps50
    go_wp2
    refine wp_loop_rounds 1 ?_
    rw [rounds_succ]
    go_wp2
    go_end0
    exact ⟨rfl, Ow.nil _ _ _, Chg.refl⟩
  · have hghi : g < hi := h.2 g rfl
    have Hh := Lib.hid h.1
    clear h hcs htk hgg
    generalize hn : xs.length = n at *
    have Hn := Lib.hid hn; clear hn
    have hcm' : cap ≤ 9223372036854775807 := hcm
    clear hcm
    go_enter Tryd.func50, Tryd.ntmps50
    go_wp2
    go_loopw [2, 3] (fun s t wr => ∃ (k : Nat) (z : Int), s = .int .i64 (k : Int) ∧ t = .int .i64 z ∧ Hid (z + 1 + k = n) ∧ k ≤ n ∧ 2 * k ≤ n + 1 ∧ Hid (wr.ownsRow lo 2 1 (.slice (some ⟨g, 0, none⟩) n cap) n ((revk xs k).map (Value.int .i64))) ∧ Chg lo hi w wr) (fun s t _ => (intOf t - intOf s + 1).toNat)
    case atStart => exact ⟨0, _, rfl, rfl, Lib.hid (by omega), by omega, by omega, Lib.hid (by rw [revk_zero]; exact Hh.out), Chg.refl⟩
    case round =>
      obtain ⟨k, z, rfl, rfl, hz, hk, hk2, hown, hch⟩ := hrel
      by_cases hlt : (k : Int) < z
      · obtain ⟨j, rfl⟩ := Int.eq_ofNat_of_zero_le (show 0 ≤ z by omega)
        have hj : j = n - 1 - k := by have := hz.out; omega
        have hjn : j < n := by have := hz.out; omega
        have hkj : k < j := by omega
        have hk3 : 2 * k + 1 < n := by have := hz.out; omega
        have ck : wr.cell? ⟨g, k, none⟩ = some (.int .i64 (gx xs k)) := by
          rw [hown.out.cellAt k (by omega), map_gx _ k (by rw [revk_len, Hn.out]; omega), gx_revk xs k k (by rw [Hn.out]; omega), if_neg (by rw [Hn.out]; omega)]
        have cj : wr.cell? ⟨g, j, none⟩ = some (.int .i64 (gx xs j)) := by
          rw [hown.out.cellAt j (by omega), map_gx _ j (by rw [revk_len, Hn.out]; omega), gx_revk xs k j (by rw [Hn.out]; omega), if_neg (by rw [Hn.out]; omega)]
        have fk := hown.out.frozenAt k
        have fj := hown.out.frozenAt j
        have hik : 0 ≤ (k : Int) ∧ (k : Int) < (n : Int) := by omega
        have hij : 0 ≤ (j : Int) ∧ (j : Int) < (n : Int) := by omega
        have hne : ¬ k = j := by omega
        have hne' : ¬ j = k := by omega
        have s1 := hown.out.stored k (.int .i64 (gx xs j))
        have s2 := s1.1.stored j (.int .i64 (gx xs k))
        have Hown2 := Lib.hid (show ((wr.setCell ⟨g, k, none⟩ (.int .i64 (gx xs j))).setCell ⟨g, j, none⟩ (.int .i64 (gx xs k))).ownsRow lo 2 1 (.slice (some ⟨g, 0, none⟩) n cap) n ((revk xs (k + 1)).map (Value.int .i64)) by
          have e := s2.1
          rw [← List.map_set, ← List.map_set] at e
          have e2 := revk_step xs k (by rw [Hn.out]; exact hk3)
          rw [Hn.out, ← hj] at e2
          rw [← e2]; exact e)
        have Hch2 := Lib.hid ((hch.trans (Chg.of_grown (lo := lo) (hi := hi) s1.2 (fun k' e => by cases e; exact ⟨hlo, hghi⟩))).trans (Chg.of_grown (lo := lo) (hi := hi) s2.2 (fun k' e => by cases e; exact ⟨hlo, hghi⟩)))
        have Hj := Lib.hid hj
        clear s1 s2 hown hch hj
        go_wp2
        go_region
        go_wp2
        go_roundw
        case rel => exact ⟨k + 1, _, by go_num, rfl, Lib.hid (by have := hz.out; omega), by omega, by omega, Lib.hid Hown2.out.drew, ⟨Hch2.out.os, Hch2.out.tape, Hch2.out.output, Hch2.out.size, Hch2.out.block⟩⟩
        case measure => first | (simp [intOf]; done) | (simp [intOf]; omega)
      · have Hres := Lib.hid (show revk xs k = xs.reverse from revk_all xs k (by have := hz.out; rw [Hn.out]; omega))
        go_wp2
        go_end0
        refine ⟨rfl, ⟨?_, fun k' e => by cases e; exact hghi⟩, hch⟩
        have e := hown.out
        rw [Hres.out] at e
        have hl : xs.reverse.length = n := by rw [List.length_reverse]; exact Hn.out
        rw [hl]; exact e
end WB
end Go.Proofs.YtdfhkkngbpidaaaDoor
