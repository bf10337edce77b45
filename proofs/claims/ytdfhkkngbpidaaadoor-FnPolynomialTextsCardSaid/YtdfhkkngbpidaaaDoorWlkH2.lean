/-
  WALKS, DRAWS: a text that is damaged.
-/
import Derived.Test.YtdfhkkngbpidaaaDoorWlkH1
import Derived.Test.YtdfhkkngbpidaaaDoorWlkF3
namespace Go.Proofs.YtdfhkkngbpidaaaDoor
open Go.RowKit
set_option linter.unusedVariables false
namespace WF
open K Pl WA
theorem SrcA.two {w : World} {B b n t h a c : Nat} (s : SrcA w B b n (tk n (tk n t a) c) (itn c (itn a h))) : SrcA w B b n (tk n t (a + c)) (itn (a + c) h) := by
  rw [← tk_tk, itn_add]; exact s
theorem ex_size (s : ByteArray) (i j : Nat) (hj : j ≤ s.size) : (s.extract i j).size = j - i := by
  rw [← L_len, L_extract, List.length_take, List.length_drop, L_len]; omega
theorem strs_one (l : List ByteArray) (h : l.all (fun c => c.size == 1) = true) (k : Nat) (hk : k < l.length) : ∃ c : ByteArray, (l.map Value.string)[k]? = some (.string c) ∧ c.size = 1 := by
  refine ⟨l[k], by rw [List.getElem?_map, List.getElem?_eq_getElem hk]; rfl, ?_⟩
  have := (List.all_eq_true.1 h) _ (List.getElem_mem hk)
  simpa using this
theorem lit_ownS {w : World} {b : Nat} (hb : b < w.heap.size) (a : Array Value) (n : Nat) (hn : a.size = n) (hn9 : n ≤ 1000) :
    (w.alloc (.cells a 9)).ownsRow (b + 1) 9 1 (.slice (some ⟨w.heap.size, 0, none⟩) n n) n a.toList :=
  World.ownsRow_lit (base := b + 1) (e := 9) (size := 1) w a n hb (by unfold maxLen; omega) (by omega)
def sgs : List ByteArray := [48, 49, 50, 51, 53, 57, 45, 43, 47, 40, 41, 91, 93, 44, 59, 58, 32, 97, 102, 115, 120, 10].map fun c => (⟨#[c]⟩ : ByteArray)
theorem sgs_one : sgs.all (fun c => c.size == 1) = true := by decide
set_option maxHeartbeats 1600000 in
theorem l01Damage_at (B b n t h : Nat) (s : ByteArray) (w : World) (hs : SrcA w B b n t h) (hz : s.size ≤ 20000000000000) :
    Calls Tryd.prog 31 #[.pointer (some ⟨b, 0, none⟩), .string s] w fun e w' => ∃ s', e = .returned (.string s') ∧ s'.size ≤ s.size + 1 ∧ (∃ g, (1 ≤ g ∧ g ≤ 3) ∧ SrcA w' B b n (tk n t g) (itn g h)) ∧ Chg b (b + 1) w w' := by
  have hbw := hs.here
  go_enter Tryd.func31, Tryd.ntmps31
  go_wp2_with fail
  have s1 := hs.al (.cells (sgs.map Value.string).toArray 9)
  have own1 := lit_ownS (w := w) hbw (sgs.map Value.string).toArray 22 rfl (by omega)
  have c1 := Chg.al (lo := b) (hi := b + 1) w (.cells (sgs.map Value.string).toArray 9)
  refine (l01Next_at B b n t h 22 _ s1 (by omega) (by omega)).mono ?_
  rintro e w2 ⟨r2, rfl, ⟨hr0, hr1⟩, _, s2, hc2⟩
  have own2 := own_dr own1 hc2 (by omega)
  have c2 := c1.trans hc2
  obtain ⟨k2, rfl⟩ := Int.eq_ofNat_of_zero_le hr0
  have hk2 : k2 < 22 := by omega
  obtain ⟨c, hc, hcs⟩ := strs_one sgs sgs_one k2 (show k2 < sgs.length from hk2)
  have hcell : w2.cell? ⟨w.heap.size, k2, none⟩ = some (.string c) := by rw [own2.cellAt k2 (by omega)]; exact hc
  have hi2 : 0 ≤ (k2 : Int) ∧ (k2 : Int) < 22 := by omega
  clear own1 own2 s1 c1 hc2 hc hr0 hr1 hs
  by_cases h0 : s.size = 0
  · have e0 : ((s.size : Int) == 0) = true := beqT (by omega)
    clear h0
    go_wp2
    go_ret
    exact ⟨c, rfl, by omega, ⟨1, by omega, s2⟩, c2⟩
  · have e0 : ((s.size : Int) == 0) = false := beqF (by omega)
    have hp : 1 ≤ s.size := by omega
    clear h0
    go_wp2_with fail
    refine (l01Next_at B b n _ _ (s.size : Int) _ s2 (by omega) (by omega)).mono ?_
    rintro e w3 ⟨r3, rfl, ⟨hr0, hr1⟩, _, s3, hc3⟩
    have s3 := s3.two
    have c3 := c2.trans hc3
    obtain ⟨k3, rfl⟩ := Int.eq_ofNat_of_zero_le hr0
    have hk3 : k3 < s.size := by omega
    clear hc3 hr0 hr1 s2 c2
    go_wp2_with fail
    refine (l01Next_at B b n _ _ 3 _ s3 (by omega) (by omega)).mono ?_
    rintro e w4 ⟨r4, rfl, ⟨hr0, hr1⟩, _, s4, hc4⟩
    have s4 := s4.two
    have c4 := c3.trans hc4
    clear hc4 s3 c3
    have z1 := ex_size s 0 k3 (by omega)
    have z2 := ex_size s (k3 + 1) s.size (Nat.le_refl _)
    have z3 := ex_size s k3 s.size (Nat.le_refl _)
    have hi3 : 0 ≤ (k3 : Int) ∧ (k3 : Int) ≤ (s.size : Int) ∧ (k3 : Int) + 1 ≤ (s.size : Int) := by omega
    by_cases q0 : r4 = 0
    · have q0b : (r4 == 0) = true := beqT q0
      clear q0 hr0 hr1
      go_wp2_with fail
      go_quiet (fail)
      go_wp2
      go_ret
      exact ⟨_, rfl, by rw [ByteArray.size_append, ByteArray.size_append, z1, z2, hcs]; omega, ⟨3, by omega, s4.later (below_drewN (Below.refl _ _) nq)⟩, c4.trans (Chg.drw _ _ _)⟩
    · have q0b : (r4 == 0) = false := beqF q0
      by_cases q1 : r4 = 1
      · have q1b : (r4 == 1) = true := beqT q1
        clear q0 q1 hr0 hr1
        go_wp2_with fail
        go_quiet (fail)
        go_wp2
        go_ret
        exact ⟨_, rfl, by rw [ByteArray.size_append, z1, z2]; omega, ⟨3, by omega, s4.later (below_drewN (Below.refl _ _) nq)⟩, c4.trans (Chg.drw _ _ _)⟩
      · have q1b : (r4 == 1) = false := beqF q1
        clear q0 q1 hr0 hr1
        go_wp2_with fail
        go_quiet (fail)
        go_wp2
        go_ret
        exact ⟨_, rfl, by rw [ByteArray.size_append, ByteArray.size_append, z1, z3, hcs]; omega, ⟨3, by omega, s4.later (below_drewN (Below.refl _ _) nq)⟩, c4.trans (Chg.drw _ _ _)⟩
end WF
end Go.Proofs.YtdfhkkngbpidaaaDoor
