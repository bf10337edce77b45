/-
  WALKS, THE STATEMENTS' OWN HELPERS: numbers written into a list whose capacity has been cut.
-/
import Derived.Test.YtdmphhenocoinaaKitU
import Derived.Test.YtdmphhenocoinaaWlkL1
namespace Go.Proofs.Ytdmphhenocoinaa
open Go.RowKit
set_option linter.unusedVariables false
namespace WL
open K Pl
set_option maxHeartbeats 400000 in
theorem markInt64SC_any (lo hi : Nat) (v : Value) (xs : List Int) (k : Int) (w : World) (h0 : OwC w lo hi v xs) (hk : 0 ≤ k) (hk' : k + xs.length ≤ 4611686018427387904) :
    Calls Try.prog 31 #[v, .int .i64 k] w fun e w' => e = .returned (.int .i64 (k + xs.length)) ∧ OwC w' lo hi v (marks k xs.length) ∧ Chg lo hi w w' := by
  obtain ⟨A0, n0, c0, c1, rfl, hn0, hc01, h⟩ := h0
  by_cases hx : n0 = 0
  · obtain rfl : xs = [] := by
      obtain ⟨A', c', e, _⟩ := h.shape
      cases e
      exact List.eq_nil_of_length_eq_zero hx
    subst hx
    have Hm := Lib.hid h
    clear h
    go_enter Try.func31, Try.ntmps31
    go_wp2
    refine wp_loop_rounds 1 ?_
    rw [rounds_succ]
    go_wp2
    go_ret
    refine ⟨ret_i (by simp), ⟨A0, 0, c0, c1, rfl, hn0, hc01, by simpa [marks] using Hm.out⟩, Chg.refl⟩
  · obtain ⟨g, rfl, e⟩ : ∃ g, A0 = some ⟨g, 0, none⟩ ∧ n0 = xs.length := by
      obtain ⟨A', c', e, _⟩ := h.shape
      cases e
      obtain ⟨g, c9, e9⟩ := Go.Joins.ownsRow_form h.1 (by omega)
      cases e9
      exact ⟨g, rfl, rfl⟩
    subst e
    have hlo := (h.1.lt g rfl).1
    have hghi : g < hi := h.2 g rfl
    have Hh := Lib.hid h.1
    obtain ⟨hcc, hcm'⟩ : xs.length ≤ c1 ∧ c1 ≤ 9223372036854775807 := by
      obtain ⟨A', c', e, h1, h2⟩ := own_shape h.1
      cases e; exact ⟨h1, h2⟩
    clear h
    generalize hn : xs.length = n at *
    have Hn := Lib.hid hn; clear hn
    go_enter Try.func31, Try.ntmps31
    go_wp2
    go_loopw [1, 5] (fun q i wr => ∃ j : Nat, j ≤ n ∧ i = .int .i64 j ∧ q = .int .i64 (k + (j : Int)) ∧ Hid (wr.ownsRow lo 2 1 (.slice (some ⟨g, 0, none⟩) n c1) n ((marked xs k j).map (Value.int .i64))) ∧ Chg lo hi w wr) (fun _ i _ => n - (intOf i).toNat)
    case atStart => exact ⟨0, Nat.zero_le _, rfl, by simp, Lib.hid (by rw [marked_zero]; exact Hh.out), Chg.refl⟩
    case round =>
      obtain ⟨j, hj, rfl, rfl, hown, hch⟩ := hrel
      by_cases hlt : j < n
      · have hst := hown.out.stored j (.int .i64 (k + (j : Int)))
        have hfr := hown.out.frozenAt j
        obtain ⟨old, hold⟩ : ∃ old, wr.cell? ⟨g, j, none⟩ = some old := by
          rw [hown.out.cellAt j (by omega)]
          have hl := marked_len xs k j
          rw [Hn.out] at hl
          exact ⟨_, List.getElem?_eq_getElem (by simp [hl]; omega)⟩
        have Hst := Lib.hid (show (wr.setCell ⟨g, j, none⟩ (.int .i64 (k + (j : Int)))).ownsRow lo 2 1 (.slice (some ⟨g, 0, none⟩) n c1) n ((marked xs k (j + 1)).map (Value.int .i64)) by
          rw [← marked_step xs k j (by rw [Hn.out]; exact hlt)]; exact hst.1)
        have Hch := Lib.hid (hch.trans (Chg.of_grown (lo := lo) (hi := hi) hst.2 (fun k' e => by cases e; exact ⟨hlo, hghi⟩)))
        clear hst hown hch
        go_wp2
        go_roundw
        case rel => exact ⟨j + 1, by omega, by go_num, by congr 1; omega, Hst, Hch.out⟩
        case measure => first | (simp [intOf]; done) | (simp [intOf]; omega)
      · have hjn : j = n := by omega
        subst hjn
        go_wp2
        go_ret
        refine ⟨rfl, ⟨_, _, c0, c1, rfl, hn0, hc01, ?_, fun k' e => by cases e; exact hghi⟩, hch⟩
        have e := hown.out
        have e1 := marked_all xs k
        rw [Hn.out] at e1
        rw [e1] at e
        rw [marks_len]
        exact e

end WL
end Go.Proofs.Ytdmphhenocoinaa
