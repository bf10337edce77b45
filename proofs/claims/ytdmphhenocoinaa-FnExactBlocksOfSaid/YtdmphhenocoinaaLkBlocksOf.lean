/-
  The program's BlocksOf returns what the reference's returns, for all arguments.
  THE WALK THROUGH 'laws.FnExactBlocksOf', out of the contracts of what it calls.
-/
import Derived.Test.YtdmphhenocoinaaWlkD8
import Derived.Test.YtdmphhenocoinaaWlkL1
import Derived.Test.YtdmphhenocoinaaWlkL4
import Derived.Test.YtdmphhenocoinaaWlkL5
import Derived.Test.YtdmphhenocoinaaWlkL4
import Derived.Deep.RegionHeld3
namespace Go.Proofs.Ytdmphhenocoinaa.fnExactBlocksOf
open Go.RowKit
set_option linter.unusedVariables false
open Pl K WA WL WD
set_option maxHeartbeats 1600000 in
theorem walk (w : World) (v0 : Value) (x0 : List Int) (is0 : Is w w.heap.size v0 x0) (wf0 : ∀ n ∈ x0, (Lit.int .i64 n).wf = true) (z0 : x0.length * 8 ≤ 140737488351232) :
    Calls Try.prog 11 #[.agg #[v0]] w fun e w' => e = .returned (.bool true) ∧ Below w.heap.size w w' := by
  have Z0 := Lib.hid z0
  clear wf0 z0
  have hw0 : Below w.heap.size w w := Below.refl _ _
  go_enter Try.func11, Try.ntmps11
  go_wp2_with fail
  refine (szBranch_any _ _ x0 1048576 _ (is0.below (hw0.alloc hw0.size _)) (by have := hw0.size; first | (simp; done) | (simp; omega)) (by omega)).mono ?_
  rintro e w1 ⟨rfl, hb1⟩
  have hs1 : w.heap.size + 1 ≤ w1.heap.size := by have := hb1.size; simp at this; omega
  have hc1 : Below w.heap.size w w1 := ((Below.refl _ _).alloc (Nat.le_refl _) _).trans (hb1.mono (by simp))
  have c1 : w1.cell? ⟨w.heap.size, 0, none⟩ = some (v0) := (hb1.cell (p := ⟨w.heap.size, 0, none⟩) (by simp)).trans (by simp [go_sem])
  have hw1 : Below w.heap.size w w1 := hw0.trans (hc1.mono hw0.size)
  clear hb1 hc1 hw0
  by_cases hbig : (1048576 : Int) < x0.length
  · rw [szl_big hbig]
    clear hbig
    go_wp2_with fail
    go_ret
    exact ⟨rfl, hw1⟩
  rw [szl_small hbig]
  have hleft : ¬ (1048576 - (x0.length : Int) < 0) := by omega
  have Hn0 := Lib.hid (show x0.length ≤ 1048576 by omega)
  clear hbig
  go_wp2_with fail
  refine (toBranch_any _ _ x0 _ (is0.below hw1) hw1.size Z0.out).mono ?_
  rintro e w2 ⟨y2, rfl, ow2, hb2⟩
  have hs2 := hb2.size
  have c2 := (Chg.of_below hb2).cell c1 (.inr (Nat.zero_le _))
  have hw2 : Below w.heap.size w w2 := hw1.trans (hb2.mono hw1.size)
  clear c1 hb2 hw1
  obtain ⟨A2y, c2y, rfl, _, _⟩ := ow2.shape
  go_wp2_with fail
  refine (sBlocksOf_any _ _ x0 _ ow2.is (Nat.le_refl _)).mono ?_
  rintro e w3 ⟨g3, rfl, ow3, hb3⟩
  have hs3 := hb3.size
  have o3 := ow2.later hb3
  have c4 := (Chg.of_below hb3).cell c2 (.inr (Nat.zero_le _))
  have hw3 : Below w.heap.size w w3 := hw2.trans (hb3.mono hw2.size)
  clear ow2 c2 hb3 hw2
  go_wp2_with fail
  refine (toBranch_any _ _ x0 _ (is0.below hw3) hw3.size Z0.out).mono ?_
  rintro e w4 ⟨y4, rfl, ow4, hb4⟩
  have hs4 := hb4.size
  have o5 := o3.later hb4
  have o6 := ow3.later hb4
  have c7 := (Chg.of_below hb4).cell c4 (.inr (Nat.zero_le _))
  have hw4 : Below w.heap.size w w4 := hw3.trans (hb4.mono hw3.size)
  clear o3 ow3 c4 hb4 hw3
  obtain ⟨A4y, c4y, rfl, _, _⟩ := ow4.shape
  have c7o : ∀ o, (w4.alloc o).cell? ⟨w.heap.size, 0, none⟩ = some (v0) := fun o => (World.cell?_alloc_lt w4 o ⟨w.heap.size, 0, none⟩ (by show w.heap.size < w4.heap.size; omega)).trans c7
  go_wp2_with fail
  refine (BlocksOf_any _ _ x0 _ (ow4.alloc _).is (Nat.le_refl _)).mono ?_
  rintro e w5 ⟨g5, rfl, ow5, hb5⟩
  have hs5 : w4.heap.size + 1 ≤ w5.heap.size := by have := hb5.size; simp at this; omega
  have hc5 : Below w4.heap.size w4 w5 := ((Below.refl _ _).alloc (Nat.le_refl _) _).trans (hb5.mono (by simp))
  have c8 : w5.cell? ⟨w4.heap.size, 0, none⟩ = some ((.slice A4y (x0).length c4y)) := (hb5.cell (p := ⟨w4.heap.size, 0, none⟩) (by simp)).trans (by simp [go_sem])
  simp only [World.size_alloc] at ow5
  have o9 := o5.later hc5
  have o10 := o6.later hc5
  have o11 := ow4.later hc5
  have c12 := (Chg.of_below hc5).cell c7 (.inr (Nat.zero_le _))
  have hw5 : Below w.heap.size w w5 := hw4.trans (hc5.mono hw4.size)
  clear o5 o6 ow4 c7 c7o hb5 hc5 hw4
  go_wp2_with fail
  refine (eqInt64SS_any _ _ _ _ _ _ _ (ow5.is) (o10.is) (Nat.le_refl _) (Nat.le_refl _)).mono ?_
  rintro e w6 ⟨rfl, hb6⟩
  have hs6 := hb6.size
  have o13 := o9.later hb6
  have o14 := o10.later hb6
  have o15 := o11.later hb6
  have o16 := ow5.later hb6
  have c17 := (Chg.of_below hb6).cell c12 (.inr (Nat.zero_le _))
  have c18 := (Chg.of_below hb6).cell c8 (.inr (Nat.zero_le _))
  have hw6 : Below w.heap.size w w6 := hw5.trans (hb6.mono hw5.size)
  clear o9 o10 o11 ow5 c12 c8 hb6 hw5
  go_wp2_with fail
  go_region_held3 (fun W => W.cell? ⟨w4.heap.size, 0, none⟩ = some (.slice A4y (x0).length c4y) ∧ W.cell? ⟨w.heap.size, 0, none⟩ = some v0) (first | go_keep) (first | (go_at_call 15; refine (toBranch_any _ _ x0 _ (is0.below hw6.drew) hw6.size Z0.out).mono ?_; rintro e U7 ⟨y7, rfl, owy, hby⟩; have p0 := (hby.cell (p := ⟨w4.heap.size, 0, none⟩) (by show w4.heap.size < w6.heap.size; omega)).trans c18; have p1 := (hby.cell (p := ⟨w.heap.size, 0, none⟩) (by show w.heap.size < w6.heap.size; omega)).trans c17) | (go_at_call 17; refine (eqBranch_any _ _ _ _ x0 x0 _ ((o15.later (below_drewN (Below.refl _ _) 1)).later hby).is owy.is (Nat.le_refl _) (Nat.le_refl _)).mono ?_; rintro e w7 ⟨rfl, hbz⟩; have t0 := (hbz.cell (p := ⟨w4.heap.size, 0, none⟩) (by show w4.heap.size < _; have := hby.size; simp at this; omega)).trans p0; have t1 := (hbz.cell (p := ⟨w.heap.size, 0, none⟩) (by show w.heap.size < _; have := hby.size; simp at this; omega)).trans p1))
  have hs7 := hby.size
  have hb7 : Below w6.heap.size w6 w7 := ((below_drewN (Below.refl _ _) 1).trans hby).trans (hbz.mono hs7)
  replace hs7 := hb7.size
  have o19 := o13.later hb7
  have o20 := o14.later hb7
  have o21 := o15.later hb7
  have o22 := o16.later hb7
  have c23 := (Chg.of_below hb7).cell c17 (.inr (Nat.zero_le _))
  have c24 := (Chg.of_below hb7).cell c18 (.inr (Nat.zero_le _))
  have hw7 : Below w.heap.size w w7 := hw6.trans (hb7.mono hw6.size)
  clear hby hbz owy p0 p1 t0 t1 o13 o14 o15 o16 c17 c18 hb7 hw6
  go_wp2_with fail
  refine (markBranch_any _ _ _ x0 _ _ o21 (by omega) (by omega) (by have := Hn0.out; omega)).mono ?_
  rintro e w8 ⟨rfl, ow8, hb8⟩
  have hs8 := hb8.size
  have o25 := o19.keep hb8 (.inl (by omega))
  have o26 := o20.keep hb8 (.inl (by omega))
  have o27 := o22.keep hb8 (.inr (by omega))
  have c28 := hb8.cell c23 (.inl (by omega))
  have c29 := hb8.cell c24 (.inr (by omega))
  have hw8 : Below w.heap.size w w8 := hw7.trans (hb8.below hw7.size (.inl (by omega)))
  clear o19 o20 o22 c23 c24 o21 hb8 hw7
  go_wp2_with fail
  refine (eqInt64SS_any _ _ _ _ _ _ _ (o27.is) (o26.is) (Nat.le_refl _) (Nat.le_refl _)).mono ?_
  rintro e w9 ⟨rfl, hb9⟩
  have hs9 := hb9.size
  have o30 := o25.later hb9
  have o31 := o26.later hb9
  have o32 := o27.later hb9
  have c33 := (Chg.of_below hb9).cell c28 (.inr (Nat.zero_le _))
  have c34 := (Chg.of_below hb9).cell c29 (.inr (Nat.zero_le _))
  have hw9 : Below w.heap.size w w9 := hw8.trans (hb9.mono hw8.size)
  clear o25 o26 o27 c28 c29 hb9 hw8
  have HL := Lib.hid (show tot ((blkB x0).1) ((blkB x0).1).length ≤ 1000000000000 from tot_pairs (blkB_pairs x0) (blkB_len x0))
  go_wp2_with fail
  refine (markInt64SS_any _ _ _ ((blkB x0).1) _ _ o32 (by omega) (by have := HL.out; omega)).mono ?_
  rintro e w10 ⟨rfl, ow10, hb10⟩
  have hs10 := hb10.size
  have o35 := o30.keep hb10 (.inl (by omega))
  have o36 := o31.keep hb10 (.inl (by omega))
  have c37 := hb10.cell c33 (.inl (by omega))
  have c38 := hb10.cell c34 (.inl (by omega))
  have hw10 : Below w.heap.size w w10 := hw9.trans (hb10.below hw9.size (.inl (by omega)))
  clear o30 o31 c33 c34 o32 hb10 hw9
  go_wp2_with fail
  refine (heldInt64SS_any _ _ ((blkB x0).1) _ _ (ow10.is) (Nat.le_refl _) (by omega) (by have := HL.out; omega)).mono ?_
  rintro e w11 ⟨rfl, hb11⟩
  have hs11 := hb11.size
  have o39 := o35.later hb11
  have o40 := o36.later hb11
  have o41 := ow10.later hb11
  have c42 := (Chg.of_below hb11).cell c37 (.inr (Nat.zero_le _))
  have c43 := (Chg.of_below hb11).cell c38 (.inr (Nat.zero_le _))
  have hw11 : Below w.heap.size w w11 := hw10.trans (hb11.mono hw10.size)
  clear o35 o36 ow10 c37 c38 hb11 hw10
  go_wp2_with fail
  refine (toBranch_any _ _ x0 _ (is0.below hw11) hw11.size Z0.out).mono ?_
  rintro e w12 ⟨y12, rfl, ow12, hb12⟩
  have hs12 := hb12.size
  have o44 := o39.later hb12
  have o45 := o40.later hb12
  have o46 := o41.later hb12
  have c47 := (Chg.of_below hb12).cell c42 (.inr (Nat.zero_le _))
  have c48 := (Chg.of_below hb12).cell c43 (.inr (Nat.zero_le _))
  have hw12 : Below w.heap.size w w12 := hw11.trans (hb12.mono hw11.size)
  clear o39 o40 o41 c42 c43 hb12 hw11
  obtain ⟨A12y, c12y, rfl, _, _⟩ := ow12.shape
  go_wp2_with fail
  refine (BlocksOf_any _ _ x0 _ ow12.is (Nat.le_refl _)).mono ?_
  rintro e w13 ⟨g13, rfl, ow13, hb13⟩
  have hs13 := hb13.size
  have o49 := o44.later hb13
  have o50 := o45.later hb13
  have o51 := o46.later hb13
  have o52 := ow12.later hb13
  have c53 := (Chg.of_below hb13).cell c47 (.inr (Nat.zero_le _))
  have c54 := (Chg.of_below hb13).cell c48 (.inr (Nat.zero_le _))
  have hw13 : Below w.heap.size w w13 := hw12.trans (hb13.mono hw12.size)
  clear o44 o45 o46 ow12 c47 c48 hb13 hw12
  go_wp2_with fail
  refine (eqInt64SS_any _ _ _ _ _ _ _ (ow13.is) (o50.is) (Nat.le_refl _) (Nat.le_refl _)).mono ?_
  rintro e w14 ⟨rfl, hb14⟩
  have hs14 := hb14.size
  have o55 := o49.later hb14
  have o56 := o50.later hb14
  have o57 := o51.later hb14
  have o58 := ow13.later hb14
  have c59 := (Chg.of_below hb14).cell c53 (.inr (Nat.zero_le _))
  have c60 := (Chg.of_below hb14).cell c54 (.inr (Nat.zero_le _))
  have hw14 : Below w.heap.size w w14 := hw13.trans (hb14.mono hw13.size)
  clear o49 o50 o51 ow13 c53 c54 hb14 hw13
  go_wp2_with fail
  refine (heldInt64SS_any _ _ ((blkB x0).1) _ _ (o57.is) (Nat.le_refl _) (by omega) (by have := HL.out; omega)).mono ?_
  rintro e w15 ⟨rfl, hb15⟩
  have hs15 := hb15.size
  have o61 := o55.later hb15
  have o62 := o56.later hb15
  have o63 := o57.later hb15
  have o64 := o58.later hb15
  have c65 := (Chg.of_below hb15).cell c59 (.inr (Nat.zero_le _))
  have c66 := (Chg.of_below hb15).cell c60 (.inr (Nat.zero_le _))
  have hw15 : Below w.heap.size w w15 := hw14.trans (hb15.mono hw14.size)
  clear o55 o56 o57 o58 c59 c60 hb15 hw14
  go_wp2_with fail
  go_ret
  exact ⟨rfl, hw15⟩
end Go.Proofs.Ytdmphhenocoinaa.fnExactBlocksOf
