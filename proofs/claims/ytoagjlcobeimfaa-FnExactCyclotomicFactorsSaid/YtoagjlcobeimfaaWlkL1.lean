/-
  WALKS, THE STATEMENTS' OWN HELPERS OVER []int64: toInt64S (a copy), eqInt64S (are two lists the same), markInt64S (numbers are written), heldInt64S (are they still there).
-/
import Derived.Test.YtoagjlcobeimfaaKit
import Derived.Deep.QuietTactic
import Derived.BigQuiet
namespace Go.Proofs.Ytoagjlcobeimfaa
open Go.RowKit
set_option linter.unusedVariables false
namespace WL
open K Pl

/-- The first k numbers of xs, then zeros: n in all. -/
def fill (xs : List Int) (k n : Nat) : List Value := (List.range n).map fun j => Value.int .i64 (if j < k then gx xs j else 0)
theorem fill_zero (xs : List Int) (n : Nat) : fill xs 0 n = List.replicate n (.int .i64 0) := by simp [fill, List.map_const']
theorem fill_len (xs : List Int) (k n : Nat) : (fill xs k n).length = n := by simp [fill]
theorem fill_step (xs : List Int) (k n : Nat) (hk : k < n) : (fill xs k n).set k (.int .i64 (gx xs k)) = fill xs (k + 1) n := by
  apply List.ext_getElem (by simp [fill])
  intro j h1 h2
  rw [List.getElem_set]
  by_cases hj : k = j
  · subst hj; simp [fill]
  · simp only [hj, if_false, fill, List.getElem_map, List.getElem_range]
    by_cases h1 : j < k
    · rw [if_pos h1, if_pos (by omega)]
    · rw [if_neg h1, if_neg (by omega)]
theorem fill_all (xs : List Int) (n : Nat) (h : xs.length = n) : fill xs n n = xs.map (Value.int .i64) := by
  subst h
  apply List.ext_getElem (by simp [fill])
  intro j h1 h2
  simp [fill] at h1 ⊢
  rw [if_pos h1, gx_eq xs j h1]

set_option maxHeartbeats 400000 in
theorem toInt64S_any (B : Nat) (v : Value) (xs : List Int) (w : World) (h : Is w B v xs) (hB : B ≤ w.heap.size) (hreach : xs.length * 8 ≤ 140737488351232) :
    Calls Try.prog 11 #[v] w fun e w' => ∃ v', e = .returned v' ∧ Ow w' w.heap.size w'.heap.size v' xs ∧ Below w.heap.size w w' := by
  obtain ⟨A, n, c, rfl, hnc, hcm, hrd⟩ := h
  have hlen := hrd.len
  rw [hlen] at hreach
  have Hlen := Lib.hid hlen; clear hlen
  have hcm' : c ≤ 9223372036854775807 := by unfold maxLen at hcm; exact hcm
  have hn63 : n ≤ 9223372036854775807 := by omega
  clear hcm
  obtain ⟨i0, hi, hz0, hz1, hz2⟩ := info_parts info64
  have Hi := Lib.hid hi; have Hz0 := Lib.hid hz0; have Hz1 := Lib.hid hz1; have Hz2 := Lib.hid hz2
  clear hi hz0 hz1 hz2
  go_enter Try.func11, Try.ntmps11
  go_wp2_with (at_make; refine wpList_make_full _ rfl _ _ 22 rfl w.heap.size 2 i0 (.int .i64 0) 1 Try.underlying22 Hi.out Hz0.out Hz1.out _ _ _ _ n rfl rfl rfl rfl ?b ?c ?d ?_)
  case b => rw [Hz2.out]; omega
  case c => unfold maxLen; omega
  case d => simp
  intro w1 hown hgrow
  have hbw : Below w.heap.size w w1 := (Below.refl _ _).grown hgrow (Nat.le_refl _) (by simp)
  have hown0 : w1.ownsRow w.heap.size 2 1 (.slice (some ⟨w.heap.size, 0, none⟩) n n) n (fill xs 0 n) := by
    rw [fill_zero]
    have e : (madeCells (Value.int IntKind.i64 0).cells (n * 1)).toList = List.replicate n (Value.int .i64 0) := by
      rw [Nat.mul_one]; exact toList_madeCells_one _ n
    rw [← e, Nat.mul_one]; exact hown
  clear hown hgrow
  go_wp2
  go_loopw [4] (fun i wr => ∃ k : Nat, k ≤ n ∧ i = .int .i64 k ∧ wr.ownsRow w.heap.size 2 1 (.slice (some ⟨w.heap.size, 0, none⟩) n n) n (fill xs k n) ∧ Below w.heap.size w wr) (fun i _ => n - (intOf i).toNat)
  case atStart => exact ⟨0, Nat.zero_le _, rfl, hown0, hbw⟩
  case round =>
    obtain ⟨k, hk, rfl, hown, hbe⟩ := hrel
    clear hown0 hbw
    by_cases hlt : k < n
    · obtain ⟨ad, rfl, hab, hc⟩ := hrd.pos (by omega)
      have hc1 : wr.cell? (ad.add k) = some (.int .i64 (gx xs k)) := (hbe.cell (by rw [block_of_add]; omega)).trans (hc k hlt)
      have hst := hown.stored k (.int .i64 (gx xs k))
      have hfr := hown.frozenAt k
      obtain ⟨old, hold⟩ : ∃ old, wr.cell? ⟨w.heap.size, k, none⟩ = some old := by
        rw [hown.cellAt k (by omega)]
        have hl := fill_len xs k n
        exact ⟨_, List.getElem?_eq_getElem (by omega)⟩
      have hbe2 : Below w.heap.size w (wr.setCell ⟨w.heap.size, k, none⟩ (.int .i64 (gx xs k))) := hbe.setCell (Nat.le_refl _) _
      have Hst := Lib.hid hst.1
      clear hst hc hown
      go_wp2
      go_roundw
      case rel => exact ⟨k + 1, by omega, by go_num, by rw [← fill_step xs k n hlt]; exact Hst.out, hbe2⟩
      case measure => first | (simp [intOf]; done) | (simp [intOf]; omega)
    · have hkn : k = n := by omega
      subst hkn
      go_wp2
      go_ret
      refine ⟨_, rfl, Ow.of_own (n := k) ?_, hbe⟩
      rw [← fill_all xs k Hlen.out]; exact hown

theorem take_eq_step (xs ys : List Int) (k n : Nat) (hx : xs.length = n) (hy : ys.length = n) (hk : k < n) (h : xs.take k = ys.take k) (e : gx xs k = gx ys k) : xs.take (k + 1) = ys.take (k + 1) := by
  rw [List.take_succ_eq_append_getElem (by omega), List.take_succ_eq_append_getElem (by omega), h, ← gx_eq xs k (by omega), ← gx_eq ys k (by omega), e]
theorem ne_of_gx (xs ys : List Int) (k : Nat) (h : ¬ gx xs k = gx ys k) : (xs == ys) = false := by
  rw [beq_eq_false_iff_ne]; intro e; subst e; exact h rfl
theorem ne_of_len (xs ys : List Int) (h : ¬ xs.length = ys.length) : (xs == ys) = false := by
  rw [beq_eq_false_iff_ne]; intro e; subst e; exact h rfl

set_option maxHeartbeats 400000 in
/-- Are two lists the same? -/
theorem eqInt64S_any (B B' : Nat) (v v' : Value) (xs ys : List Int) (w : World) (h : Is w B v xs) (h' : Is w B' v' ys) (hB : B ≤ w.heap.size) (hB' : B' ≤ w.heap.size) :
    Calls Try.prog 7 #[v, v'] w fun e w' => e = .returned (.bool (xs == ys)) ∧ Below w.heap.size w w' := by
  obtain ⟨A, n, c, rfl, hnc, hcm, hrd⟩ := h
  obtain ⟨A', n', c', rfl, hnc', hcm', hrd'⟩ := h'
  have Hlen := Lib.hid hrd.len; have Hlen' := Lib.hid hrd'.len
  unfold maxLen at hcm hcm'
  by_cases hnn : n = n'
  · subst hnn
    have hne : ((n : Int) != (n : Int)) = false := by simp
    go_enter Try.func7, Try.ntmps7
    go_wp2
    go_loopw [5] (fun i wr => ∃ k : Nat, k ≤ n ∧ i = .int .i64 k ∧ Hid (xs.take k = ys.take k) ∧ Below w.heap.size w wr) (fun i _ => n - (intOf i).toNat)
    case atStart => exact ⟨0, Nat.zero_le _, rfl, Lib.hid (by simp), Below.refl _ _⟩
    case round =>
      obtain ⟨k, hk, rfl, hpre, hbe⟩ := hrel
      by_cases hlt : k < n
      · obtain ⟨ad, rfl, hab, hc⟩ := hrd.pos (by omega)
        obtain ⟨ad', rfl, hab', hc'⟩ := hrd'.pos (by omega)
        have hc1 : wr.cell? (ad.add k) = some (.int .i64 (gx xs k)) := (hbe.cell (by rw [block_of_add]; omega)).trans (hc k hlt)
        have hc2 : wr.cell? (ad'.add k) = some (.int .i64 (gx ys k)) := (hbe.cell (by rw [block_of_add]; omega)).trans (hc' k hlt)
        have hi1 : 0 ≤ (k : Int) ∧ (k : Int) < (n : Int) := by omega
        clear hc hc'
        by_cases he : gx xs k = gx ys k
        · have hb1 : (gx xs k != gx ys k) = false := by simp [he]
          have Hpre2 := Lib.hid (take_eq_step xs ys k n Hlen.out Hlen'.out hlt hpre.out he)
          clear he
          go_wp2_with fail
          go_quiet (fail)
          go_wp2
          go_roundw
          case rel => exact ⟨k + 1, by omega, by go_num, Hpre2, below_drewN hbe _⟩
          case measure => first | (simp [intOf]; done) | (simp [intOf]; omega)
        · have hb1 : (gx xs k != gx ys k) = true := by simp [he]
          have Hres := Lib.hid (ne_of_gx xs ys k he)
          clear he
          go_wp2_with fail
          go_quiet (fail)
          go_wp2
          go_ret
          exact ⟨ret_b Hres.out.symm, below_drewN hbe _⟩
      · have hkn : k = n := by omega
        subst hkn
        go_wp2
        go_ret
        refine ⟨?_, hbe⟩
        have e := hpre.out
        rw [List.take_of_length_le (Nat.le_of_eq Hlen.out), List.take_of_length_le (Nat.le_of_eq Hlen'.out)] at e
        subst e
        simp
  · have hne : ((n : Int) != (n' : Int)) = true := by rw [bne_iff_ne]; omega
    have Hres := Lib.hid (ne_of_len xs ys (by rw [Hlen.out, Hlen'.out]; exact hnn))
    go_enter Try.func7, Try.ntmps7
    go_wp2
    go_ret
    exact ⟨ret_b Hres.out.symm, Below.refl _ _⟩

/-! ### numbers written, numbers still there -/
/-- k, k + 1, .. : n numbers. -/
def marks (k : Int) (n : Nat) : List Int := (List.range n).map fun (j : Nat) => k + (j : Int)
theorem marks_len (k : Int) (n : Nat) : (marks k n).length = n := by simp [marks]
theorem gx_marks (k : Int) (n j : Nat) (h : j < n) : gx (marks k n) j = k + j := by rw [gx_eq _ _ (by rw [marks_len]; exact h)]; simp [marks]
/-- The first j numbers written. -/
def marked (xs : List Int) (k : Int) (j : Nat) : List Int := (List.range xs.length).map fun i => if i < j then k + (i : Int) else gx xs i
theorem marked_len (xs : List Int) (k : Int) (j : Nat) : (marked xs k j).length = xs.length := by simp [marked]
theorem marked_zero (xs : List Int) (k : Int) : marked xs k 0 = xs := by
  apply List.ext_getElem (by simp [marked])
  intro i h1 h2
  simp [marked, gx_eq xs i h2]
theorem marked_step (xs : List Int) (k : Int) (j : Nat) (h : j < xs.length) : ((marked xs k j).map (Value.int .i64)).set j (.int .i64 (k + (j : Int))) = (marked xs k (j + 1)).map (Value.int .i64) := by
  rw [← List.map_set]
  congr 1
  apply List.ext_getElem (by simp [marked])
  intro i h1 h2
  rw [List.getElem_set]
  by_cases e : j = i
  · subst e; simp [marked]
  · simp only [e, if_false, marked, List.getElem_map, List.getElem_range]
    by_cases h3 : i < j
    · rw [if_pos h3, if_pos (by omega)]
    · rw [if_neg h3, if_neg (by omega)]
theorem marked_all (xs : List Int) (k : Int) : marked xs k xs.length = marks k xs.length := by
  apply List.ext_getElem (by simp [marked, marks])
  intro i h1 h2
  simp [marked, marks] at h1 ⊢
  omega

set_option maxHeartbeats 400000 in
theorem markInt64S_any (lo hi : Nat) (v : Value) (xs : List Int) (k : Int) (w : World) (h : Ow w lo hi v xs) (hk : 0 ≤ k) (hk' : k + xs.length ≤ 4611686018427387904) :
    Calls Try.prog 8 #[v, .int .i64 k] w fun e w' => e = .returned (.int .i64 (k + xs.length)) ∧ Ow w' lo hi v (marks k xs.length) ∧ Chg lo hi w w' := by
  rcases h.1.2 with ⟨rfl, h0⟩ | ⟨g, cap, cur, rfl, hlo, hgg, hnc, hcm, hcs, htk⟩
  · obtain rfl : xs = [] := List.eq_nil_of_length_eq_zero h0
    have Hm := Lib.hid h
    clear h h0
    go_enter Try.func8, Try.ntmps8
    go_wp2
    refine wp_loop_rounds 1 ?_
    rw [rounds_succ]
    go_wp2
    go_ret
    refine ⟨ret_i (by simp), by simpa [marks] using Hm.out, Chg.refl⟩
  · have hghi : g < hi := h.2 g rfl
    have Hh := Lib.hid h.1
    clear h hcs htk hgg
    generalize hn : xs.length = n at *
    have Hn := Lib.hid hn; clear hn
    have hcm' : cap ≤ 9223372036854775807 := hcm
    clear hcm
    go_enter Try.func8, Try.ntmps8
    go_wp2
    go_loopw [1, 5] (fun q i wr => ∃ j : Nat, j ≤ n ∧ i = .int .i64 j ∧ q = .int .i64 (k + (j : Int)) ∧ Hid (wr.ownsRow lo 2 1 (.slice (some ⟨g, 0, none⟩) n cap) n ((marked xs k j).map (Value.int .i64))) ∧ Chg lo hi w wr) (fun _ i _ => n - (intOf i).toNat)
    case atStart => exact ⟨0, Nat.zero_le _, rfl, by simp, Lib.hid (by rw [marked_zero]; exact Hh.out), Chg.refl⟩
    case round =>
      obtain ⟨j, hj, rfl, rfl, hown, hch⟩ := hrel
      by_cases hlt : j < n
      · have hst := hown.out.stored j (.int .i64 (k + (j : Int)))
        have hfr := hown.out.frozenAt j
        obtain ⟨old, hold⟩ : ∃ old, wr.cell? ⟨g, j, none⟩ = some old := by
          rw [hown.out.cellAt j (by omega)]
          have hl := marked_len xs k j
          rw [Hn.out] at hl
          exact ⟨_, List.getElem?_eq_getElem (by simp [hl]; omega)⟩
        have Hst := Lib.hid (show (wr.setCell ⟨g, j, none⟩ (.int .i64 (k + (j : Int)))).ownsRow lo 2 1 (.slice (some ⟨g, 0, none⟩) n cap) n ((marked xs k (j + 1)).map (Value.int .i64)) by
          rw [← marked_step xs k j (by rw [Hn.out]; exact hlt)]; exact hst.1)
        have Hch := Lib.hid (hch.trans (Chg.of_grown (lo := lo) (hi := hi) hst.2 (fun k' e => by cases e; exact ⟨hlo, hghi⟩)))
        clear hst hown hch
        go_wp2
        go_roundw
        case rel => exact ⟨j + 1, by omega, by go_num, by congr 1; omega, Hst, Hch.out⟩
        case measure => first | (simp [intOf]; done) | (simp [intOf]; omega)
      · have hjn : j = n := by omega
        subst hjn
        go_wp2
        go_ret
        refine ⟨rfl, ⟨?_, fun k' e => by cases e; exact hghi⟩, hch⟩
        have e := hown.out
        have e1 := marked_all xs k
        rw [Hn.out] at e1
        rw [e1] at e
        rw [marks_len]
        exact e

set_option maxHeartbeats 400000 in
theorem heldInt64S_any (B : Nat) (v : Value) (n : Nat) (k : Int) (w : World) (h : Is w B v (marks k n)) (hB : B ≤ w.heap.size) (hk : 0 ≤ k) (hk' : k + n ≤ 4611686018427387904) :
    Calls Try.prog 9 #[v, .int .i64 k] w fun e w' => e = .returned (.int .i64 (k + n)) ∧ Below w.heap.size w w' := by
  obtain ⟨A, m, c, rfl, hnc, hcm, hrd⟩ := h
  obtain rfl : m = n := by have := hrd.len; rw [marks_len] at this; omega
  unfold maxLen at hcm
  go_enter Try.func9, Try.ntmps9
  go_wp2
  go_loopw [1, 5] (fun q i wr => ∃ j : Nat, j ≤ m ∧ i = .int .i64 j ∧ q = .int .i64 (k + (j : Int)) ∧ Below w.heap.size w wr) (fun _ i _ => m - (intOf i).toNat)
  case atStart => exact ⟨0, Nat.zero_le _, rfl, by simp, Below.refl _ _⟩
  case round =>
    obtain ⟨j, hj, rfl, rfl, hbe⟩ := hrel
    by_cases hlt : j < m
    · obtain ⟨ad, rfl, hab, hc⟩ := hrd.pos (by omega)
      have hc1 : wr.cell? (ad.add j) = some (.int .i64 (k + (j : Int))) := by
        rw [← gx_marks k m j hlt]; exact (hbe.cell (by rw [block_of_add]; omega)).trans (hc j hlt)
      have hi1 : 0 ≤ (j : Int) ∧ (j : Int) < (m : Int) := by omega
      have hne : ((k + (j : Int)) != (k + (j : Int))) = false := by simp
      clear hc
      go_wp2
      go_roundw
      case rel => exact ⟨j + 1, by omega, by go_num, by congr 1; omega, hbe⟩
      case measure => first | (simp [intOf]; done) | (simp [intOf]; omega)
    · have hjn : j = m := by omega
      subst hjn
      go_wp2
      go_ret
      exact ⟨rfl, hbe⟩
end WL
end Go.Proofs.Ytoagjlcobeimfaa
