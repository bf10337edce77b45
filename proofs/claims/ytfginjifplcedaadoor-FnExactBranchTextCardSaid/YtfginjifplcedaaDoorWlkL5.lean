/-
  WALKS, THE STATEMENTS' OWN HELPERS OVER BRANCHES: szBranch, toBranch, eqBranch, markBranch, heldBranch.
-/
import Derived.Test.YtfginjifplcedaaDoorKitV
import Derived.Test.YtfginjifplcedaaDoorWlkL1
namespace Go.Proofs.YtfginjifplcedaaDoor
open Go.RowKit
set_option linter.unusedVariables false
namespace WL
open K Pl
theorem Chg.setCell {lo hi : Nat} {w : World} {p : Addr} (h : lo ≤ p.block ∧ p.block < hi) (u : Value) : Chg lo hi w (w.setCell p u) :=
  ⟨rfl, rfl, rfl, by simp, fun k hk hn => Below.heap_setCell w p u k (fun e => hn (by rw [e]; exact h))⟩
theorem own_later_chg {w w' w2 : World} {lo hi lo' hi' B : Nat} {v : Value} {xs : List Int} (h : Ow w lo hi v xs) (hc : Chg lo' hi' w w') (hd : hi' ≤ lo) (hB : B ≤ lo) (hh : hi ≤ w'.heap.size) : Ow w' B w'.heap.size v xs :=
  (h.keep hc (.inr hd)).wide hB hh
/-- What is left of a size. -/
def szl (l : Int) (n : Nat) : Int := if l < n then -1 else l - n
theorem szl_big {l : Int} {n : Nat} (h : l < n) : szl l n = -1 := if_pos h
theorem szl_small {l : Int} {n : Nat} (h : ¬ l < n) : szl l n = l - n := if_neg h
theorem szl_bd {l : Int} {n : Nat} (h : 0 ≤ l ∧ l ≤ 1048576) : -1 ≤ szl l n ∧ szl l n ≤ 1048576 := by unfold szl; split <;> omega
theorem szInt64S_any (B : Nat) (v : Value) (xs : List Int) (l : Int) (w : World) (h : Is w B v xs) (hl : 0 ≤ l ∧ l ≤ 1048576) : Calls Tryd.prog 9 #[v, .int .i64 l] w fun e w' => e = .returned (.int .i64 (szl l xs.length)) ∧ w = w' := by
  obtain ⟨A, n, c, rfl, hnc, hcm, hrd⟩ := h
  have Hlen := Lib.hid hrd.len
  unfold maxLen at hcm
  rw [Hlen.out]
  clear hrd
  by_cases hb : l < n
  · have Hr := Lib.hid (szl_big hb)
    have hlt : l - (n : Int) < 0 := by omega
    go_enter Tryd.func9, Tryd.ntmps9
    go_wp2
    go_ret
    exact ⟨ret_i Hr.out.symm, rfl⟩
  · have Hr := Lib.hid (szl_small hb)
    have hlt : ¬ l - (n : Int) < 0 := by omega
    go_enter Tryd.func9, Tryd.ntmps9
    go_wp2
    go_ret
    exact ⟨ret_i Hr.out.symm, rfl⟩
theorem szBranch_any (B : Nat) (v : Value) (xs : List Int) (l : Int) (w : World) (h : Is w B v xs) (hB : B ≤ w.heap.size) (hl : 0 ≤ l ∧ l ≤ 1048576) : Calls Tryd.prog 4 #[.agg #[v], .int .i64 l] w fun e w' => e = .returned (.int .i64 (szl l xs.length)) ∧ Below w.heap.size w w' := by
  have Hh := Lib.hid h
  have hb := szl_bd (n := xs.length) hl
  obtain ⟨A, n, c, rfl, _, _, _⟩ := h
  by_cases hn : szl l xs.length < 0
  · go_enter Tryd.func4, Tryd.ntmps4
    go_wp2_with fail
    refine (szInt64S_any B _ xs l _ (Hh.out.below (((Below.refl _ _).alloc (Nat.le_refl _) _).mono hB)) hl).mono ?_
    rintro e w' ⟨rfl, rfl⟩
    go_wp2_with fail
    go_ret
    exact ⟨ret_i (by omega), (Below.refl _ _).alloc (Nat.le_refl _) _⟩
  · go_enter Tryd.func4, Tryd.ntmps4
    go_wp2_with fail
    refine (szInt64S_any B _ xs l _ (Hh.out.below (((Below.refl _ _).alloc (Nat.le_refl _) _).mono hB)) hl).mono ?_
    rintro e w' ⟨rfl, rfl⟩
    go_wp2_with fail
    go_ret
    exact ⟨rfl, (Below.refl _ _).alloc (Nat.le_refl _) _⟩
set_option maxHeartbeats 400000 in
theorem toBranch_any (B : Nat) (v : Value) (xs : List Int) (w : World) (h : Is w B v xs) (hB : B ≤ w.heap.size) (hreach : xs.length * 8 ≤ 140737488351232) :
    Calls Tryd.prog 6 #[.agg #[v]] w fun e w' => ∃ v', e = .returned (.agg #[v']) ∧ Ow w' w.heap.size w'.heap.size v' xs ∧ Below w.heap.size w w' := by
  have Hh := Lib.hid h
  have Hz := Lib.hid hreach
  have hb3 : ∀ o1 o2 o3, Below w.heap.size w (((w.alloc o1).alloc o2).alloc o3) := fun o1 o2 o3 => (((Below.refl _ _).alloc (Nat.le_refl _) _).alloc (by simp) _).alloc (by simp; omega) _
  obtain ⟨A, n, c, rfl, _, _, _⟩ := h
  go_enter Tryd.func6, Tryd.ntmps6
  go_wp2_with fail
  refine (toInt64S_any B _ xs _ (Hh.out.below ((hb3 _ _ _).mono hB)) (by simp; omega) Hz.out).mono ?_
  rintro e w1 ⟨v', rfl, ow, hb⟩
  obtain ⟨A', c', rfl, _, _⟩ := ow.shape
  have hs := hb.size
  have h1 : w1.cell? ⟨w.heap.size + 2, 0, none⟩ = some (.slice none 0 0) := (hb.cell (p := ⟨w.heap.size + 2, 0, none⟩) (by simp)).trans (by simp [go_sem])
  have h2 : w1.frozen? ⟨w.heap.size + 2, 0, none⟩ = false := (hb.frozen (p := ⟨w.heap.size + 2, 0, none⟩) (by simp)).trans (by simp [go_sem])
  have h3 : w1.cell? ⟨w.heap.size + 1, 0, none⟩ = some (.slice none 0 0) := (hb.cell (p := ⟨w.heap.size + 1, 0, none⟩) (by simp)).trans (by simp [go_sem])
  have h4 : w1.frozen? ⟨w.heap.size + 1, 0, none⟩ = false := (hb.frozen (p := ⟨w.heap.size + 1, 0, none⟩) (by simp)).trans (by simp [go_sem])
  have hw1 := (hb3 _ _ _).trans (hb.mono (by simp; omega))
  simp only [World.size_alloc] at hs ow
  have Ho := Lib.hid ow
  have Hs := Lib.hid hs
  clear hb ow hb3
  go_wp2
  have h5 : (w1.setCell ⟨w.heap.size + 1 + 1, 0, none⟩ (.slice A' xs.length c')).cell? ⟨w.heap.size + 1, 0, none⟩ = some (.slice none 0 0) := (World.cell?_setCell_other _ _ _ _ (by simp)).trans h3
  have h6 := World.cell?_setCell_same (w1.setCell ⟨w.heap.size + 1 + 1, 0, none⟩ (.slice A' xs.length c')) ⟨w.heap.size + 1, 0, none⟩ (.slice A' xs.length c') h5
  refine bodyPost_ret (v := .agg #[.slice A' xs.length c']) (by simp [results, Tryd.results6, go_sem, h6]) rfl ⟨_, rfl, ?_, ?_⟩
  · have c1 : Chg (w.heap.size + 1) (w.heap.size + 3) w1 ((w1.setCell ⟨w.heap.size + 2, 0, none⟩ (.slice A' xs.length c')).setCell ⟨w.heap.size + 1, 0, none⟩ (.slice A' xs.length c')) := (Chg.setCell ⟨by simp, by simp⟩ _).trans (Chg.setCell ⟨by simp, by simp⟩ _)
    exact own_later_chg (w2 := w1) Ho.out c1 (by omega) (by omega) (by simp)
  · exact (hw1.setCell (by simp; omega) _).setCell (by simp) _
set_option maxHeartbeats 400000 in
theorem eqBranch_any (B B' : Nat) (v v' : Value) (xs ys : List Int) (w : World) (h : Is w B v xs) (h' : Is w B' v' ys) (hB : B ≤ w.heap.size) (hB' : B' ≤ w.heap.size) :
    Calls Tryd.prog 8 #[.agg #[v], .agg #[v']] w fun e w' => e = .returned (.bool (xs == ys)) ∧ Below w.heap.size w w' := by
  have Hh := Lib.hid h
  have Hh' := Lib.hid h'
  have hb2 : ∀ o1 o2, Below w.heap.size w ((w.alloc o1).alloc o2) := fun o1 o2 => ((Below.refl _ _).alloc (Nat.le_refl _) _).alloc (by simp) _
  obtain ⟨A, n, c, rfl, _, _, _⟩ := h
  obtain ⟨A', n', c', rfl, _, _, _⟩ := h'
  cases hR : (xs == ys)
  all_goals
    go_enter Tryd.func8, Tryd.ntmps8
    go_wp2_with fail
    refine (eqInt64S_any B B' _ _ xs ys _ (Hh.out.below ((hb2 _ _).mono hB)) (Hh'.out.below ((hb2 _ _).mono hB')) (by simp; omega) (by simp; omega)).mono ?_
    rintro e w1 ⟨rfl, hb⟩
    rw [hR]
    have hw1 := (hb2 _ _).trans (hb.mono (by simp; omega))
    clear hb
    go_wp2_with fail
    go_ret
    exact ⟨rfl, hw1⟩
end WL
end Go.Proofs.YtfginjifplcedaaDoor
