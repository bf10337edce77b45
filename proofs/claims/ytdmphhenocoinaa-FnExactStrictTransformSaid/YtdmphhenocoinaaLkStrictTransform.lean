/-
  The program's StrictTransform returns what the reference's returns, for all arguments.
  THE WALK THROUGH 'laws.FnExactStrictTransform', out of the contracts of what it calls.
-/
import Derived.Test.YtdmphhenocoinaaWlkE7
import Derived.Test.YtdmphhenocoinaaWlkL1
import Derived.Test.YtdmphhenocoinaaWlkL5
import Derived.Deep.RegionHeld3
namespace Go.Proofs.Ytdmphhenocoinaa.fnExactStrictTransform
open Go.RowKit
set_option linter.unusedVariables false
open Pl K WA WL WC WD WE
set_option maxHeartbeats 1600000 in
theorem walk (w : World) (v0 : Value) (x0 : List Int) (is0 : Is w w.heap.size v0 x0) (wf0 : ∀ n ∈ x0, (Lit.int .i64 n).wf = true) (z0 : x0.length * 8 ≤ 140737488351232) :
    Calls Try.prog 12 #[.agg #[v0]] w fun e w' => e = .returned (.bool true) ∧ Below w.heap.size w w' := by
  have Z0 := Lib.hid z0
  clear wf0 z0
  have hw0 : Below w.heap.size w w := Below.refl _ _
  go_enter Try.func12, Try.ntmps12
  go_wp2_with fail
  refine (szBranch_any _ _ x0 1048576 _ (is0.below (hw0.alloc hw0.size _)) (by have := hw0.size; first | (simp; done) | (simp; omega)) (by omega)).mono ?_
  rintro e w1 ⟨rfl, hb1⟩
  have hs1 : w.heap.size + 1 ≤ w1.heap.size := by have := hb1.size; simp at this; omega
  have hc1 : Below w.heap.size w w1 := ((Below.refl _ _).alloc (Nat.le_refl _) _).trans (hb1.mono (by simp))
  have c1 : w1.cell? ⟨w.heap.size, 0, none⟩ = some (v0) := (hb1.cell (p := ⟨w.heap.size, 0, none⟩) (by simp)).trans (by simp [go_sem])
  have hw1 : Below w.heap.size w w1 := hw0.trans (hc1.mono hw0.size)
  clear hb1 hc1 hw0
  by_cases hbig : (1048576 : Int) < x0.length
  · rw [szl_big hbig]
    clear hbig
    go_wp2_with fail
    go_ret
    exact ⟨rfl, hw1⟩
  rw [szl_small hbig]
  have hleft : ¬ (1048576 - (x0.length : Int) < 0) := by omega
  have Hn0 := Lib.hid (show x0.length ≤ 1048576 by omega)
  clear hbig
  go_wp2_with fail
  refine (toBranch_any _ _ x0 _ (is0.below hw1) hw1.size Z0.out).mono ?_
  rintro e w2 ⟨y2, rfl, ow2, hb2⟩
  have hs2 := hb2.size
  have c2 := (Chg.of_below hb2).cell c1 (.inr (Nat.zero_le _))
  have hw2 : Below w.heap.size w w2 := hw1.trans (hb2.mono hw1.size)
  clear c1 hb2 hw1
  obtain ⟨A2y, c2y, rfl, _, _⟩ := ow2.shape
  go_wp2_with fail
  refine (sStrictTransform_any _ _ x0 _ ow2.is (Nat.le_refl _)).mono ?_
  rintro e w3 ⟨g3, rfl, ow3, hb3⟩
  have hs3 := hb3.size
  have o3 := ow2.later hb3
  have c4 := (Chg.of_below hb3).cell c2 (.inr (Nat.zero_le _))
  have hw3 : Below w.heap.size w w3 := hw2.trans (hb3.mono hw2.size)
  clear ow2 c2 hb3 hw2
  obtain ⟨A3y, c3y, rfl, _, _⟩ := ow3.shape
  have c4o : ∀ o, (w3.alloc o).cell? ⟨w.heap.size, 0, none⟩ = some (v0) := fun o => (World.cell?_alloc_lt w3 o ⟨w.heap.size, 0, none⟩ (by show w.heap.size < w3.heap.size; omega)).trans c4
  go_wp2_with fail
  refine (toBranch_any _ _ x0 _ (is0.below (hw3.alloc hw3.size _)) (by have := hw3.size; first | (simp; done) | (simp; omega)) Z0.out).mono ?_
  rintro e w4 ⟨y4, rfl, ow4, hb4⟩
  have hs4 : w3.heap.size + 1 ≤ w4.heap.size := by have := hb4.size; simp at this; omega
  have hc4 : Below w3.heap.size w3 w4 := ((Below.refl _ _).alloc (Nat.le_refl _) _).trans (hb4.mono (by simp))
  have c5 : w4.cell? ⟨w3.heap.size, 0, none⟩ = some ((.slice A3y ((stB x0).1).length c3y)) := (hb4.cell (p := ⟨w3.heap.size, 0, none⟩) (by simp)).trans (by simp [go_sem])
  simp only [World.size_alloc] at ow4
  have o6 := o3.later hc4
  have o7 := ow3.later hc4
  have c8 := (Chg.of_below hc4).cell c4 (.inr (Nat.zero_le _))
  have hw4 : Below w.heap.size w w4 := hw3.trans (hc4.mono hw3.size)
  clear o3 ow3 c4 c4o hb4 hc4 hw3
  obtain ⟨A4y, c4y, rfl, _, _⟩ := ow4.shape
  have c8o : ∀ o, (w4.alloc o).cell? ⟨w.heap.size, 0, none⟩ = some (v0) := fun o => (World.cell?_alloc_lt w4 o ⟨w.heap.size, 0, none⟩ (by show w.heap.size < w4.heap.size; omega)).trans c8
  have c5o : ∀ o, (w4.alloc o).cell? ⟨w3.heap.size, 0, none⟩ = some ((.slice A3y ((stB x0).1).length c3y)) := fun o => (World.cell?_alloc_lt w4 o ⟨w3.heap.size, 0, none⟩ (by show w3.heap.size < w4.heap.size; omega)).trans c5
  go_wp2_with fail
  refine (StrictTransform_any _ _ x0 _ (ow4.alloc _).is (Nat.le_refl _)).mono ?_
  rintro e w5 ⟨g5, rfl, ow5, hb5⟩
  have hs5 : w4.heap.size + 1 ≤ w5.heap.size := by have := hb5.size; simp at this; omega
  have hc5 : Below w4.heap.size w4 w5 := ((Below.refl _ _).alloc (Nat.le_refl _) _).trans (hb5.mono (by simp))
  have c9 : w5.cell? ⟨w4.heap.size, 0, none⟩ = some ((.slice A4y (x0).length c4y)) := (hb5.cell (p := ⟨w4.heap.size, 0, none⟩) (by simp)).trans (by simp [go_sem])
  simp only [World.size_alloc] at ow5
  have o10 := o6.later hc5
  have o11 := o7.later hc5
  have o12 := ow4.later hc5
  have c13 := (Chg.of_below hc5).cell c8 (.inr (Nat.zero_le _))
  have c14 := (Chg.of_below hc5).cell c5 (.inr (Nat.zero_le _))
  have hw5 : Below w.heap.size w w5 := hw4.trans (hc5.mono hw4.size)
  clear o6 o7 ow4 c8 c8o c5 c5o hb5 hc5 hw4
  obtain ⟨A5y, c5y, rfl, _, _⟩ := ow5.shape
  have c13o : ∀ o, (w5.alloc o).cell? ⟨w.heap.size, 0, none⟩ = some (v0) := fun o => (World.cell?_alloc_lt w5 o ⟨w.heap.size, 0, none⟩ (by show w.heap.size < w5.heap.size; omega)).trans c13
  have c14o : ∀ o, (w5.alloc o).cell? ⟨w3.heap.size, 0, none⟩ = some ((.slice A3y ((stB x0).1).length c3y)) := fun o => (World.cell?_alloc_lt w5 o ⟨w3.heap.size, 0, none⟩ (by show w3.heap.size < w5.heap.size; omega)).trans c14
  have c9o : ∀ o, (w5.alloc o).cell? ⟨w4.heap.size, 0, none⟩ = some ((.slice A4y (x0).length c4y)) := fun o => (World.cell?_alloc_lt w5 o ⟨w4.heap.size, 0, none⟩ (by show w4.heap.size < w5.heap.size; omega)).trans c9
  go_wp2_with fail
  refine (eqBranch_any _ _ _ _ _ _ _ ((ow5.alloc _).is) ((o11.alloc _).is) (Nat.le_refl _) (Nat.le_refl _)).mono ?_
  rintro e w6 ⟨rfl, hb6⟩
  have hs6 : w5.heap.size + 1 ≤ w6.heap.size := by have := hb6.size; simp at this; omega
  have hc6 : Below w5.heap.size w5 w6 := ((Below.refl _ _).alloc (Nat.le_refl _) _).trans (hb6.mono (by simp))
  have c15 : w6.cell? ⟨w5.heap.size, 0, none⟩ = some ((.slice A5y ((stB x0).1).length c5y)) := (hb6.cell (p := ⟨w5.heap.size, 0, none⟩) (by simp)).trans (by simp [go_sem])
  have o16 := o10.later hc6
  have o17 := o11.later hc6
  have o18 := o12.later hc6
  have o19 := ow5.later hc6
  have c20 := (Chg.of_below hc6).cell c13 (.inr (Nat.zero_le _))
  have c21 := (Chg.of_below hc6).cell c14 (.inr (Nat.zero_le _))
  have c22 := (Chg.of_below hc6).cell c9 (.inr (Nat.zero_le _))
  have hw6 : Below w.heap.size w w6 := hw5.trans (hc6.mono hw5.size)
  clear o10 o11 o12 ow5 c13 c13o c14 c14o c9 c9o hb6 hc6 hw5
  go_wp2_with fail
  go_region_held3 (fun W => W.cell? ⟨w4.heap.size, 0, none⟩ = some (.slice A4y (x0).length c4y) ∧ W.cell? ⟨w.heap.size, 0, none⟩ = some v0) (first | go_keep) (first | (go_at_call 15; refine (toBranch_any _ _ x0 _ (is0.below hw6.drew) hw6.size Z0.out).mono ?_; rintro e U7 ⟨y7, rfl, owy, hby⟩; have p0 := (hby.cell (p := ⟨w4.heap.size, 0, none⟩) (by show w4.heap.size < w6.heap.size; omega)).trans c22; have p1 := (hby.cell (p := ⟨w.heap.size, 0, none⟩) (by show w.heap.size < w6.heap.size; omega)).trans c20) | (go_at_call 17; refine (eqBranch_any _ _ _ _ x0 x0 _ ((o18.later (below_drewN (Below.refl _ _) 1)).later hby).is owy.is (Nat.le_refl _) (Nat.le_refl _)).mono ?_; rintro e w7 ⟨rfl, hbz⟩; have t0 := (hbz.cell (p := ⟨w4.heap.size, 0, none⟩) (by show w4.heap.size < _; have := hby.size; simp at this; omega)).trans p0; have t1 := (hbz.cell (p := ⟨w.heap.size, 0, none⟩) (by show w.heap.size < _; have := hby.size; simp at this; omega)).trans p1))
  have hs7 := hby.size
  have hb7 : Below w6.heap.size w6 w7 := ((below_drewN (Below.refl _ _) 1).trans hby).trans (hbz.mono hs7)
  replace hs7 := hb7.size
  have o23 := o16.later hb7
  have o24 := o17.later hb7
  have o25 := o18.later hb7
  have o26 := o19.later hb7
  have c27 := (Chg.of_below hb7).cell c20 (.inr (Nat.zero_le _))
  have c28 := (Chg.of_below hb7).cell c21 (.inr (Nat.zero_le _))
  have c29 := (Chg.of_below hb7).cell c22 (.inr (Nat.zero_le _))
  have c30 := (Chg.of_below hb7).cell c15 (.inr (Nat.zero_le _))
  have hw7 : Below w.heap.size w w7 := hw6.trans (hb7.mono hw6.size)
  clear hby hbz owy p0 p1 t0 t1 o16 o17 o18 o19 c20 c21 c22 c15 hb7 hw6
  go_wp2_with fail
  refine (markBranch_any _ _ _ x0 _ _ o25 (by omega) (by omega) (by have := Hn0.out; omega)).mono ?_
  rintro e w8 ⟨rfl, ow8, hb8⟩
  have hs8 := hb8.size
  have o31 := o23.keep hb8 (.inl (by omega))
  have o32 := o24.keep hb8 (.inl (by omega))
  have o33 := o26.keep hb8 (.inr (by omega))
  have c34 := hb8.cell c27 (.inl (by omega))
  have c35 := hb8.cell c28 (.inl (by omega))
  have c36 := hb8.cell c29 (.inr (by omega))
  have c37 := hb8.cell c30 (.inr (by omega))
  have hw8 : Below w.heap.size w w8 := hw7.trans (hb8.below hw7.size (.inl (by omega)))
  clear o23 o24 o26 c27 c28 c29 c30 o25 hb8 hw7
  go_wp2_with fail
  refine (eqBranch_any _ _ _ _ _ _ _ (o33.is) (o32.is) (Nat.le_refl _) (Nat.le_refl _)).mono ?_
  rintro e w9 ⟨rfl, hb9⟩
  have hs9 := hb9.size
  have o38 := o31.later hb9
  have o39 := o32.later hb9
  have o40 := o33.later hb9
  have c41 := (Chg.of_below hb9).cell c34 (.inr (Nat.zero_le _))
  have c42 := (Chg.of_below hb9).cell c35 (.inr (Nat.zero_le _))
  have c43 := (Chg.of_below hb9).cell c36 (.inr (Nat.zero_le _))
  have c44 := (Chg.of_below hb9).cell c37 (.inr (Nat.zero_le _))
  have hw9 : Below w.heap.size w w9 := hw8.trans (hb9.mono hw8.size)
  clear o31 o32 o33 c34 c35 c36 c37 hb9 hw8
  have HL := Lib.hid (show ((stB x0).1).length ≤ 1000000000 from (stB_len x0))
  go_wp2_with fail
  refine (markBranch_any _ _ _ ((stB x0).1) _ _ o40 (by omega) (by omega) (by have := HL.out; omega)).mono ?_
  rintro e w10 ⟨rfl, ow10, hb10⟩
  have hs10 := hb10.size
  have o45 := o38.keep hb10 (.inl (by omega))
  have o46 := o39.keep hb10 (.inl (by omega))
  have c47 := hb10.cell c41 (.inl (by omega))
  have c48 := hb10.cell c42 (.inl (by omega))
  have c49 := hb10.cell c43 (.inl (by omega))
  have c50 := hb10.cell c44 (.inr (by omega))
  have hw10 : Below w.heap.size w w10 := hw9.trans (hb10.below hw9.size (.inl (by omega)))
  clear o38 o39 c41 c42 c43 c44 o40 hb10 hw9
  go_wp2_with fail
  refine (heldBranch_any _ _ _ _ _ (ow10.is) (Nat.le_refl _) (by omega) (by have := HL.out; omega)).mono ?_
  rintro e w11 ⟨rfl, hb11⟩
  have hs11 := hb11.size
  have o51 := o45.later hb11
  have o52 := o46.later hb11
  have o53 := ow10.later hb11
  have c54 := (Chg.of_below hb11).cell c47 (.inr (Nat.zero_le _))
  have c55 := (Chg.of_below hb11).cell c48 (.inr (Nat.zero_le _))
  have c56 := (Chg.of_below hb11).cell c49 (.inr (Nat.zero_le _))
  have c57 := (Chg.of_below hb11).cell c50 (.inr (Nat.zero_le _))
  have hw11 : Below w.heap.size w w11 := hw10.trans (hb11.mono hw10.size)
  clear o45 o46 ow10 c47 c48 c49 c50 hb11 hw10
  go_wp2_with fail
  refine (toBranch_any _ _ x0 _ (is0.below hw11) hw11.size Z0.out).mono ?_
  rintro e w12 ⟨y12, rfl, ow12, hb12⟩
  have hs12 := hb12.size
  have o58 := o51.later hb12
  have o59 := o52.later hb12
  have o60 := o53.later hb12
  have c61 := (Chg.of_below hb12).cell c54 (.inr (Nat.zero_le _))
  have c62 := (Chg.of_below hb12).cell c55 (.inr (Nat.zero_le _))
  have c63 := (Chg.of_below hb12).cell c56 (.inr (Nat.zero_le _))
  have c64 := (Chg.of_below hb12).cell c57 (.inr (Nat.zero_le _))
  have hw12 : Below w.heap.size w w12 := hw11.trans (hb12.mono hw11.size)
  clear o51 o52 o53 c54 c55 c56 c57 hb12 hw11
  obtain ⟨A12y, c12y, rfl, _, _⟩ := ow12.shape
  go_wp2_with fail
  refine (StrictTransform_any _ _ x0 _ ow12.is (Nat.le_refl _)).mono ?_
  rintro e w13 ⟨g13, rfl, ow13, hb13⟩
  have hs13 := hb13.size
  have o65 := o58.later hb13
  have o66 := o59.later hb13
  have o67 := o60.later hb13
  have o68 := ow12.later hb13
  have c69 := (Chg.of_below hb13).cell c61 (.inr (Nat.zero_le _))
  have c70 := (Chg.of_below hb13).cell c62 (.inr (Nat.zero_le _))
  have c71 := (Chg.of_below hb13).cell c63 (.inr (Nat.zero_le _))
  have c72 := (Chg.of_below hb13).cell c64 (.inr (Nat.zero_le _))
  have hw13 : Below w.heap.size w w13 := hw12.trans (hb13.mono hw12.size)
  clear o58 o59 o60 ow12 c61 c62 c63 c64 hb13 hw12
  obtain ⟨A13y, c13y, rfl, _, _⟩ := ow13.shape
  have c69o : ∀ o, (w13.alloc o).cell? ⟨w.heap.size, 0, none⟩ = some (v0) := fun o => (World.cell?_alloc_lt w13 o ⟨w.heap.size, 0, none⟩ (by show w.heap.size < w13.heap.size; omega)).trans c69
  have c70o : ∀ o, (w13.alloc o).cell? ⟨w3.heap.size, 0, none⟩ = some ((.slice A3y ((stB x0).1).length c3y)) := fun o => (World.cell?_alloc_lt w13 o ⟨w3.heap.size, 0, none⟩ (by show w3.heap.size < w13.heap.size; omega)).trans c70
  have c71o : ∀ o, (w13.alloc o).cell? ⟨w4.heap.size, 0, none⟩ = some ((.slice A4y (x0).length c4y)) := fun o => (World.cell?_alloc_lt w13 o ⟨w4.heap.size, 0, none⟩ (by show w4.heap.size < w13.heap.size; omega)).trans c71
  have c72o : ∀ o, (w13.alloc o).cell? ⟨w5.heap.size, 0, none⟩ = some ((.slice A5y ((stB x0).1).length c5y)) := fun o => (World.cell?_alloc_lt w13 o ⟨w5.heap.size, 0, none⟩ (by show w5.heap.size < w13.heap.size; omega)).trans c72
  go_wp2_with fail
  refine (eqBranch_any _ _ _ _ _ _ _ ((ow13.alloc _).is) ((o66.alloc _).is) (Nat.le_refl _) (Nat.le_refl _)).mono ?_
  rintro e w14 ⟨rfl, hb14⟩
  have hs14 : w13.heap.size + 1 ≤ w14.heap.size := by have := hb14.size; simp at this; omega
  have hc14 : Below w13.heap.size w13 w14 := ((Below.refl _ _).alloc (Nat.le_refl _) _).trans (hb14.mono (by simp))
  have c73 : w14.cell? ⟨w13.heap.size, 0, none⟩ = some ((.slice A13y ((stB x0).1).length c13y)) := (hb14.cell (p := ⟨w13.heap.size, 0, none⟩) (by simp)).trans (by simp [go_sem])
  have o74 := o65.later hc14
  have o75 := o66.later hc14
  have o76 := o67.later hc14
  have o77 := ow13.later hc14
  have c78 := (Chg.of_below hc14).cell c69 (.inr (Nat.zero_le _))
  have c79 := (Chg.of_below hc14).cell c70 (.inr (Nat.zero_le _))
  have c80 := (Chg.of_below hc14).cell c71 (.inr (Nat.zero_le _))
  have c81 := (Chg.of_below hc14).cell c72 (.inr (Nat.zero_le _))
  have hw14 : Below w.heap.size w w14 := hw13.trans (hc14.mono hw13.size)
  clear o65 o66 o67 ow13 c69 c69o c70 c70o c71 c71o c72 c72o hb14 hc14 hw13
  go_wp2_with fail
  refine (heldBranch_any _ _ _ _ _ (o76.is) (Nat.le_refl _) (by omega) (by have := HL.out; omega)).mono ?_
  rintro e w15 ⟨rfl, hb15⟩
  have hs15 := hb15.size
  have o82 := o74.later hb15
  have o83 := o75.later hb15
  have o84 := o76.later hb15
  have o85 := o77.later hb15
  have c86 := (Chg.of_below hb15).cell c78 (.inr (Nat.zero_le _))
  have c87 := (Chg.of_below hb15).cell c79 (.inr (Nat.zero_le _))
  have c88 := (Chg.of_below hb15).cell c80 (.inr (Nat.zero_le _))
  have c89 := (Chg.of_below hb15).cell c81 (.inr (Nat.zero_le _))
  have c90 := (Chg.of_below hb15).cell c73 (.inr (Nat.zero_le _))
  have hw15 : Below w.heap.size w w15 := hw14.trans (hb15.mono hw14.size)
  clear o74 o75 o76 o77 c78 c79 c80 c81 c73 hb15 hw14
  go_wp2_with fail
  go_ret
  exact ⟨rfl, hw15⟩
end Go.Proofs.Ytdmphhenocoinaa.fnExactStrictTransform
