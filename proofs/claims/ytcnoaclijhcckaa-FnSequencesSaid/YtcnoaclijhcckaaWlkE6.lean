/-
  WALKS, CHAPTER 4: branches of sequences, the reference's callers.
-/
import Derived.Test.YtcnoaclijhcckaaWlkE3
import Derived.Test.YtcnoaclijhcckaaWlkE5
namespace Go.Proofs.Ytcnoaclijhcckaa
open Go.RowKit
set_option linter.unusedVariables false
namespace WE
open K Pl WA WC WD WL
set_option maxHeartbeats 800000 in
theorem sBranchOfSequence_any (B : Nat) (v : Value) (xs : List Int) (w : World) (h : Is w B v xs) (hB : B ≤ w.heap.size) : Calls Try.prog 27 #[v] w (LiB (bosB xs) w) := by
  have Hh := Lib.hid h
  have hb1 : ∀ o, Below w.heap.size w (w.alloc o) := fun o => (Below.refl _ _).alloc (Nat.le_refl _) o
  obtain ⟨A, n, c, rfl, hnc, hcm, hrd⟩ := h
  clear hrd
  cases hP : ptsB xs
  · have Hr := Lib.hid (bosB_no hP)
    go_enter Try.func27, Try.ntmps27
    go_wp2_with fail
    refine (l04List_any B _ xs _ (Hh.out.below ((hb1 _).mono hB)) (by simp; omega)).mono ?_
    rintro e w' ⟨rfl, rfl⟩
    rw [hP]
    go_wp2
    exact bodyPost_ret (v := .tuple #[.agg #[.slice none 0 0], .int .i64 2]) (by simp [results, Try.results27, go_sem]) rfl (LiB.nil Hr.out (hb1 _))
  · have HP := Lib.hid hP
    go_enter Try.func27, Try.ntmps27
    go_wp2_with fail
    refine (l04List_any B _ xs _ (Hh.out.below ((hb1 _).mono hB)) (by simp; omega)).mono ?_
    rintro e w' ⟨rfl, rfl⟩
    rw [hP]
    go_wp2_with fail
    refine (l04Branch_any B _ xs _ (Hh.out.below ((hb1 _).mono hB)) (by simp; omega) HP.out).mono ?_
    rintro e w1 ⟨v1, T, b, rfl, ow1, hb, hbs, hbT⟩
    have hcr : w1.cell? ⟨w.heap.size, 0, none⟩ = some (.slice none 0 0) := (hb.cell (p := ⟨w.heap.size, 0, none⟩) (by simp)).trans (by simp [go_sem])
    have hfr : w1.frozen? ⟨w.heap.size, 0, none⟩ = false := (hb.frozen (p := ⟨w.heap.size, 0, none⟩) (by simp)).trans (by simp [go_sem])
    have hs1 : w.heap.size < w1.heap.size := World.block_lt_of_cell? w1 ⟨w.heap.size, 0, none⟩ hcr
    have hw1 := (hb1 _).trans (hb.mono (by simp))
    rw [World.size_alloc] at ow1
    obtain ⟨A1, c1, rfl, _, _⟩ := ow1.shape
    cases b
    · have Hr := Lib.hid (bosB_none HP.out (show bsq xs = none by cases e : bsq xs with
        | none => rfl
        | some T' => rw [e] at hbs; cases hbs))
      obtain ⟨n0, n2⟩ := res_none (b := w.heap.size) hcr (Nat.le_refl _) hw1
      have n1 := cell_alloc n0 (.cells #[.slice A1 T.length c1] 26)
      have N2 := Lib.hid (n2.alloc n2.size (.cells #[.slice A1 T.length c1] 26))
      clear n0 n2 hb hw1 hb1 ow1 hbs hbT
      go_wp2
      exact bodyPost_ret (v := .tuple #[.agg #[.slice none 0 0], .int .i64 5]) (by simp [results, Try.results27, go_sem, n1]) rfl (LiB.nil Hr.out N2.out)
    · have Hr := Lib.hid (bosB_some HP.out (hbT rfl))
      obtain ⟨r1, r2, r3⟩ := res_copy (t := 26) hw1 hs1 ow1 hcr
      have R2 := Lib.hid r2; have R3 := Lib.hid r3
      clear r2 r3 hb hw1 hb1 ow1 hbs hbT
      go_wp2
      exact bodyPost_ret (v := .tuple #[.agg #[.slice A1 T.length c1], .int .i64 0]) (by simp [results, Try.results27, go_sem, r1]) rfl ⟨_, by rw [Hr.out], by rw [Hr.out]; exact R2.out, R3.out⟩
theorem sIsSequence_any (B : Nat) (v : Value) (xs : List Int) (w : World) (h : Is w B v xs) (hB : B ≤ w.heap.size) : Calls Try.prog 28 #[v] w fun e w' => e = .returned (.bool (isqB xs)) ∧ Below w.heap.size w w' := by
  have Hh := Lib.hid h
  obtain ⟨A, n, c, rfl, hnc, hcm, hrd⟩ := h
  clear hrd
  cases hP : ptsB xs
  · have Hr := Lib.hid (show isqB xs = false by unfold isqB; rw [hP]; rfl)
    go_enter Try.func28, Try.ntmps28
    go_wp2_with fail
    refine (l04List_any B _ xs _ Hh.out hB).mono ?_
    rintro e w' ⟨rfl, rfl⟩
    rw [hP]
    go_wp2
    go_ret
    exact ⟨ret_b Hr.out.symm, Below.refl _ _⟩
  · have HP := Lib.hid hP
    go_enter Try.func28, Try.ntmps28
    go_wp2_with fail
    refine (l04List_any B _ xs _ Hh.out hB).mono ?_
    rintro e w' ⟨rfl, rfl⟩
    rw [hP]
    go_wp2_with fail
    refine (l04Branch_any B _ xs _ Hh.out hB HP.out).mono ?_
    rintro e w1 ⟨v1, T, b, rfl, ow1, hb, hbs, hbT⟩
    have Hr := Lib.hid (show isqB xs = b by unfold isqB; rw [HP.out, hbs]; rfl)
    have hs1 := hb.size
    have hb2 : ∀ o, Below w.heap.size w (w1.alloc o) := fun o => hb.alloc hs1 o
    obtain ⟨A1, c1, rfl, _, _⟩ := ow1.shape
    clear ow1 hb hbs hbT
    go_wp2
    go_ret
    exact ⟨ret_b Hr.out.symm, hb2 _⟩
end WE
end Go.Proofs.Ytcnoaclijhcckaa
