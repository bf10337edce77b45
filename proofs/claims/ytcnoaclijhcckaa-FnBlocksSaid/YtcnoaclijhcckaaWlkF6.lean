/-
  WALKS, DRAWS: branches.
-/
import Derived.Test.YtcnoaclijhcckaaWlkF5
import Derived.Test.YtcnoaclijhcckaaWlkC11
namespace Go.Proofs.Ytcnoaclijhcckaa
open Go.RowKit
set_option linter.unusedVariables false
namespace WF
open K Pl WA WC
/-- The list without its head. -/
theorem tail_is {w : World} {B n c : Nat} {ad : Addr} {xs : List Int} (h : Is w B (.slice (some ad) n c) xs) (h1 : 1 ≤ n) (hc : n ≤ c) (hm : c ≤ maxLen) : Is w B (.slice (some ⟨ad.block, ad.off + 1, none⟩) (n - 1) (c - 1)) (xs.drop 1) := by
  have he : ad.add 1 = ⟨ad.block, ad.off + 1, none⟩ := by simp [Addr.add]
  rw [← he]
  obtain ⟨A, n', c', e, _, _, hrd⟩ := h
  cases e
  have hl := hrd.len
  obtain ⟨ad', e, hab, hcs⟩ := hrd.pos (by omega)
  cases e
  refine ⟨_, _, _, rfl, by omega, by omega, ⟨by simp; omega, fun _ => ⟨_, rfl, by rw [block_of_add]; exact hab, fun j hj => ?_⟩⟩⟩
  have := hcs (1 + j) (by omega)
  rw [gx_drop, ← this]
  by_cases hj0 : j = 0
  · subst hj0; simp [Addr.add]
  · simp [Addr.add, hj0, Nat.add_assoc]
theorem Chg.of_drew (w : World) (lo hi : Nat) : Chg lo hi w w.drew := ⟨rfl, rfl, rfl, Nat.le_refl _, fun _ _ _ => rfl⟩
section
variable {w W : World} {B b p q : Nat} {u1 u2 : Value}
theorem s4_al (h : Src W B b ∧ Chg b (b + 1) w W ∧ W.cell? ⟨p, 0, none⟩ = some u1 ∧ W.cell? ⟨q, 0, none⟩ = some u2) (o : Obj) : Src (W.alloc o) B b ∧ Chg b (b + 1) w (W.alloc o) ∧ (W.alloc o).cell? ⟨p, 0, none⟩ = some u1 ∧ (W.alloc o).cell? ⟨q, 0, none⟩ = some u2 :=
  ⟨Src.al h.1 o, h.2.1.trans (Chg.al _ _), cell_alloc h.2.2.1 o, cell_alloc h.2.2.2 o⟩
theorem s4_set (h : Src W B b ∧ Chg b (b + 1) w W ∧ W.cell? ⟨p, 0, none⟩ = some u1 ∧ W.cell? ⟨q, 0, none⟩ = some u2) (r : Nat) (v : Value) (h1 : b < r) (h2 : w.heap.size ≤ r) (h3 : p ≠ r) (h4 : q ≠ r) :
    Src (W.setCell ⟨r, 0, none⟩ v) B b ∧ Chg b (b + 1) w (W.setCell ⟨r, 0, none⟩ v) ∧ (W.setCell ⟨r, 0, none⟩ v).cell? ⟨p, 0, none⟩ = some u1 ∧ (W.setCell ⟨r, 0, none⟩ v).cell? ⟨q, 0, none⟩ = some u2 :=
  ⟨h.1.keep (Chg.setC (lo := r) (hi := r + 1) (p := ⟨r, 0, none⟩) ⟨Nat.le_refl _, Nat.lt_succ_self _⟩ _) (.inl h1) (.inl (by have := h.1.lt; omega)),
   ⟨h.2.1.os, h.2.1.tape, h.2.1.output, by simpa using h.2.1.size, fun x hx hn => (Below.heap_setCell W ⟨r, 0, none⟩ _ x (by show x ≠ r; omega)).trans (h.2.1.block x hx hn)⟩,
   cell_far (q := ⟨p, 0, none⟩) h.2.2.1 h3, cell_far (q := ⟨q, 0, none⟩) h.2.2.2 h4⟩
end
theorem br_pair {t k : Int} (ht : t = 2 ∨ t = 3) (hk : 1 ≤ k ∧ k ≤ 9) : isBr [t, t * k + 1] = true := by
  have h1 : gcdI t (t * k + 1) = 1 := by
    rw [gcdI_comm]
    exact gcd_one_of (by omega) ⟨k, by omega⟩
  refine isBr_true.2 ⟨by simp, ?_, ?_, ?_⟩
  · show 1 ≤ t ∧ t ≤ 64; omega
  · intro i h1' h2
    simp at h2
    obtain rfl : i = 1 := by omega
    have e0 : gx [t, t * k + 1] 0 = t := rfl
    have e1 : gx [t, t * k + 1] 1 = t * k + 1 := rfl
    have d1 : dg [t, t * k + 1] 1 = t := dg_one _ (by rw [e0]; omega)
    refine okT_true.2 ⟨?_, ?_, ?_⟩
    · rw [e0, e1]; rcases ht with rfl | rfl <;> omega
    · rw [e1]; rcases ht with rfl | rfl <;> omega
    · rw [dg_succ, d1, e1, h1]; omega
  · have e0 : gx [t, t * k + 1] 0 = t := rfl
    have e1 : gx [t, t * k + 1] 1 = t * k + 1 := rfl
    have d1 : dg [t, t * k + 1] 1 = t := dg_one _ (by rw [e0]; omega)
    show dg [t, t * k + 1] 2 = 1
    rw [dg_succ, d1, e1, h1]
set_option maxHeartbeats 3200000 in
theorem l03Draw_any (B b : Nat) (w : World) (h : Src w B b) :
    Calls Try.prog 61 #[.pointer (some ⟨b, 0, none⟩)] w fun e w' => ∃ v xs, e = .returned (.agg #[v]) ∧ Ow w' w.heap.size w'.heap.size v xs ∧ isBr xs = true ∧ Dr B b w w' := by
  have hbw := h.here
  have hr0 := Lib.hid (Rz.new w (.slice none 0 0) 26)
  have hs0 := Lib.hid (Src.al h (.cells #[.slice none 0 0] 26))
  have hc0 := Lib.hid (Chg.al (lo := b) (hi := b + 1) w (.cells #[.slice none 0 0] 26))
  go_enter Try.func61, Try.ntmps61
  go_upto_region 1 with fail
  obtain ⟨w1, hw1⟩ : ∃ w1, w1 = w.alloc (.cells #[.slice none 0 0] 26) := ⟨_, rfl⟩
  rw [← hw1] at hr0 hs0 hc0 ⊢
  clear hw1
  go_wp2_with fail
  refine (l01Pick_any B b w1.heap.size 4 [6, 12, 30, 64] _ (Src.al hs0.out _) (by omega) (by omega) (lit_own hs0.out.here _ 4 rfl (by omega))).mono ?_
  rintro e w2 ⟨p, rfl, hp, hs2, hc2⟩
  have hp2 : 1 ≤ p ∧ p ≤ 64 := by simp at hp; omega
  have c2 := (hc0.out.trans (Chg.al _ _)).trans hc2
  have v2 := Lib.hid ((hr0.out.al _).chg hc2 (.inr (by omega)))
  clear hp hc2 hr0 hs0 hc0
  go_wp2_with fail
  refine (l03Small_any B b p _ hs2 hp2).mono ?_
  rintro e w3 ⟨v3, xs, rfl, ow3, hxs, hs3, hc3⟩
  have c3 := c2.trans hc3
  have r3 := Lib.hid (v2.out.chg hc3 (.inr (by omega)))
  have hz2 := v2.out.here
  have hz3 := r3.out.here
  obtain ⟨A, c, rfl, hnc, hcm⟩ := ow3.shape
  obtain ⟨n, Hn⟩ : ∃ n, Hid (xs.length = n) := ⟨_, Lib.hid rfl⟩
  have ho3 := Lib.hid (ow3.wide (show w.heap.size + 1 ≤ w2.heap.size from hz2) (Nat.le_refl _))
  have hn1 : 1 ≤ n := by rw [← Hn.out]; rcases hxs with h | h | h
                         · exact (isBr_true.1 h).1
                         · rw [h]; decide
                         · rw [h]; decide
  rw [Hn.out] at hnc ho3 ⊢
  clear c2 v2 hs2 hc3 ow3
  have s4 := Lib.hid (Src.al hs3 (.cells #[.slice A n c] 26))
  have c4 := Lib.hid (c3.trans (Chg.al (lo := b) (hi := b + 1) w3 (.cells #[.slice A n c] 26)))
  have r4 := Lib.hid (r3.out.al (.cells #[.slice A n c] 26))
  have x4 := Lib.hid (Rz.new w3 (.slice A n c) 26)
  have o4 := Lib.hid ((ho3.out.alloc (.cells #[.slice A n c] 26)).wide (Nat.le_refl _) (show w3.heap.size ≤ (w3.alloc (.cells #[.slice A n c] 26)).heap.size by simp))
  clear hs3 c3 r3 ho3
  go_upto_region 2 with fail
  obtain ⟨w4, hw4⟩ : ∃ w4, w4 = w3.alloc (.cells #[.slice A n c] 26) := ⟨_, rfl⟩
  have hz4 : w3.heap.size < w4.heap.size := by rw [hw4]; simp
  rw [← hw4] at s4 c4 r4 x4 o4 ⊢
  clear hw4
  obtain ⟨r4c, r4f⟩ := r4.out
  have x4c := x4.out.1
  have hlw := r4.out.here
  obtain ⟨A9, n9, c9, e9, hnc9, hcm9, hrd9⟩ := o4.out.isB
  cases e9
  obtain ⟨ad, rfl, hab, hcl⟩ := hrd9.pos (by omega)
  have hc0 : w4.cell? ad = some (.int .i64 (gx xs 0)) := by have := hcl 0 (by omega); simpa [Addr.add] using this
  obtain ⟨g, cg, eg⟩ := Go.Joins.ownsRow_form o4.out.1 (by rw [Hn.out]; omega)
  obtain rfl : ad = ⟨g, 0, none⟩ := by cases eg; rfl
  have hgl := (o4.out.low (k := g) rfl).1
  clear hrd9 hcl eg
  have hret : isBr xs = true → Ow (w4.setCell ⟨w.heap.size, 0, none⟩ (.slice (some ⟨g, 0, none⟩) n c)) w.heap.size (w4.setCell ⟨w.heap.size, 0, none⟩ (.slice (some ⟨g, 0, none⟩) n c)).heap.size (.slice (some ⟨g, 0, none⟩) n c) xs ∧ isBr xs = true ∧ Dr B b w (w4.setCell ⟨w.heap.size, 0, none⟩ (.slice (some ⟨g, 0, none⟩) n c)) := by
    intro hb
    refine ⟨(o4.out.keep (Chg.setC (lo := w.heap.size) (hi := w.heap.size + 1) (p := ⟨w.heap.size, 0, none⟩) ⟨Nat.le_refl _, Nat.lt_succ_self _⟩ _) (.inr (Nat.le_refl _))).wide (by omega) (by simp), hb, ?_, ?_⟩
    · exact s4.out.keep (Chg.setC (lo := w.heap.size) (hi := w.heap.size + 1) (p := ⟨w.heap.size, 0, none⟩) ⟨Nat.le_refl _, Nat.lt_succ_self _⟩ _) (.inl (by omega)) (.inl (by have := s4.out.lt; omega))
    · exact ⟨c4.out.os, c4.out.tape, c4.out.output, by simpa using c4.out.size, fun x hx hn => (Below.heap_setCell w4 ⟨w.heap.size, 0, none⟩ _ x (by show x ≠ w.heap.size; omega)).trans (c4.out.block x hx hn)⟩
  have Hret := Lib.hid hret
  have hr7 := Lib.hid (r4.out.set (.slice (some ⟨g, 0, none⟩) n c)).1
  clear hret
  by_cases h1 : n = 1
  · have h1' : ((n : Int) == 1) = true := by simp [h1]
    by_cases h2 : 1 < gx xs 0
    · have hX : gx xs 0 = 2 ∨ gx xs 0 = 3 := by
        rcases hxs with h | h | h
        · exfalso
          have h3 := (isBr_true.1 h).2.2.2
          rw [Hn.out, h1, dg_one _ (by omega)] at h3
          omega
        · rw [h]; exact .inl rfl
        · rw [h]; exact .inr rfl
      generalize gx xs 0 = X at *
      have hi0 : (0 : Int) < (n : Int) := by omega
      have hi00 : 0 < n := by omega
      clear hxs h1 Hret hr7 o4
      have S0 : Src w4 B b ∧ Chg b (b + 1) w w4 ∧ w4.cell? ⟨w3.heap.size, 0, none⟩ = some (.slice (some ⟨g, 0, none⟩) n c) ∧ w4.cell? ⟨g, 0, none⟩ = some (.int .i64 X) := ⟨s4.out, c4.out, x4c, hc0⟩
      have hgne : g ≠ w.heap.size := by omega
      go_wp2_with fail
      go_region_held3 (fun W => Src W B b ∧ Chg b (b + 1) w W ∧ W.cell? ⟨w3.heap.size, 0, none⟩ = some (.slice (some ⟨g, 0, none⟩) n c) ∧ W.cell? ⟨g, 0, none⟩ = some (.int .i64 X)) (first | exact ⟨S0.1.later ((Below.refl _ _).drew), S0.2.1.trans (Chg.of_drew _ _ _), S0.2.2⟩ | exact qq | exact s4_al qq _ | exact s4_set (s4_al qq _) _ _ (by omega) (by omega) (by omega) (by omega) | assumption)
        (first
          | (go_at_call 42; obtain ⟨sa, sb, se, sf⟩ := (by assumption : Src _ B b ∧ _); refine (l01Next_any B b 9 _ sa (by omega)).mono ?_; rintro e w5 ⟨r5, rfl, hr5, hs5, hc5⟩; have qq := And.intro hs5 (And.intro (sb.trans hc5) (And.intro (hc5.cell se (.inr (by omega))) (hc5.cell sf (.inr (by omega))))); have q1 := Rz.chg (show Rz w4.drew w.heap.size (.slice none 0 0) from ⟨r4c, r4f⟩) hc5 (.inr (by omega)); have q2 := q1.1; have q3 := fun o => (q1.al o).1; have q4 := fun o => (q1.al o).2; clear sa sb se sf))
      rename_i hH
      have hr50 := hr5.1
      have hr51 := hr5.2.1 (by omega)
      have hw1 : IntKind.i64.wrap (1 + r5) = 1 + r5 := IntWalk.i64_in _ (by omega)
      have hXr : 0 ≤ X * (1 + r5) ∧ X * (1 + r5) ≤ 27 := by rcases hX with rfl | rfl <;> omega
      rw [hw1, IntWalk.i64_in (X * (1 + r5)) (by omega), IntWalk.i64_in (X * (1 + r5) + 1) (by omega)] at hH ⊢
      have hbr := Lib.hid (br_pair (k := 1 + r5) hX (by omega))
      have ho := Lib.hid (show Ow (w5.alloc (.cells #[.int .i64 X, .int .i64 (X * (1 + r5) + 1)] 2)) (w.heap.size + 1) (w5.alloc (.cells #[.int .i64 X, .int .i64 (X * (1 + r5) + 1)] 2)).heap.size (.slice (some ⟨w5.heap.size, 0, none⟩) 2 2) [X, X * (1 + r5) + 1] from Ow.of_own (n := 2) (World.ownsRow_lit (base := w.heap.size + 1) (e := 2) (size := 1) w5 #[.int .i64 X, .int .i64 (X * (1 + r5) + 1)] 2 q1.here (by unfold maxLen; omega) rfl))
      have ho2 := Lib.hid ((ho.out.keep (Chg.setC (lo := w.heap.size) (hi := w.heap.size + 1) (p := ⟨w.heap.size, 0, none⟩) ⟨Nat.le_refl _, Nat.lt_succ_self _⟩ (.slice (some ⟨w5.heap.size, 0, none⟩) 2 2)) (.inr (Nat.le_refl _))).wide (lo' := w.heap.size) (by omega) (show (w5.alloc (.cells #[.int .i64 X, .int .i64 (X * (1 + r5) + 1)] 2)).heap.size ≤ ((w5.alloc (.cells #[.int .i64 X, .int .i64 (X * (1 + r5) + 1)] 2)).setCell ⟨w.heap.size, 0, none⟩ (.slice (some ⟨w5.heap.size, 0, none⟩) 2 2)).heap.size by simp))
      have hrc := ((q1.al (.cells #[.int .i64 X, .int .i64 (X * (1 + r5) + 1)] 2)).set (.slice (some ⟨w5.heap.size, 0, none⟩) 2 2)).1
      have HH := Lib.hid (And.intro hH.1 hH.2.1)
      clear hH ho q1 q2 q3 q4 qq hw1
      obtain ⟨wz, hwz⟩ : ∃ wz, wz = (w5.alloc (.cells #[.int .i64 X, .int .i64 (X * (1 + r5) + 1)] 2)).setCell ⟨w.heap.size, 0, none⟩ (.slice (some ⟨w5.heap.size, 0, none⟩) 2 2) := ⟨_, rfl⟩
      rw [← hwz] at HH ho2 hrc ⊢
      clear hwz
      go_wp2_with fail
      refine bodyPost_ret (v := .agg #[.slice (some ⟨w5.heap.size, 0, none⟩) 2 2]) (by simp [results, Try.results61, go_sem, hrc]) rfl ?_
      first | exact ⟨_, _, rfl, ho2.out, hbr.out, HH.out⟩ | exact ⟨_, rfl, _, ho2.out, hbr.out, HH.out⟩
    · have hb : isBr xs = true := by
        rcases hxs with h | h | h
        · exact h
        · rw [h] at h2; exact absurd (by decide) h2
        · rw [h] at h2; exact absurd (by decide) h2
      have Hb := Lib.hid hb
      generalize gx xs 0 = X at *
      clear hxs h1 hb
      go_wp2_with fail
      have hr8 := hr7.out
      refine bodyPost_ret (v := .agg #[.slice (some ⟨g, 0, none⟩) n c]) (by simp [results, Try.results61, go_sem, hr8]) rfl ?_
      first | exact ⟨_, _, rfl, Hret.out Hb.out⟩ | exact ⟨_, rfl, _, Hret.out Hb.out⟩
  · have h1' : ((n : Int) == 1) = false := by rw [beq_eq_false_iff_ne]; omega
    have hb : isBr xs = true := by
      rcases hxs with h | h | h
      · exact h
      · exact absurd (by rw [← Hn.out, h]; rfl) h1
      · exact absurd (by rw [← Hn.out, h]; rfl) h1
    have Hb := Lib.hid hb
    clear hxs h1 hb
    go_wp2_with fail
    have hr8 := hr7.out
    refine bodyPost_ret (v := .agg #[.slice (some ⟨g, 0, none⟩) n c]) (by simp [results, Try.results61, go_sem, hr8]) rfl ?_
    first | exact ⟨_, _, rfl, Hret.out Hb.out⟩ | exact ⟨_, rfl, _, Hret.out Hb.out⟩
section
variable {W : World} {B b p : Nat} {u : Value}
theorem s2_al (h : Src W B b ∧ W.cell? ⟨p, 0, none⟩ = some u) (o : Obj) : Src (W.alloc o) B b ∧ (W.alloc o).cell? ⟨p, 0, none⟩ = some u := ⟨Src.al h.1 o, cell_alloc h.2 o⟩
theorem s2_drew (h : Src W B b ∧ W.cell? ⟨p, 0, none⟩ = some u) : Src W.drew B b ∧ W.drew.cell? ⟨p, 0, none⟩ = some u := ⟨h.1.later ((Below.refl _ _).drew), h.2⟩
theorem s2_set (h : Src W B b ∧ W.cell? ⟨p, 0, none⟩ = some u) (r : Nat) (v : Value) (h1 : b < r) (h3 : p ≠ r) : Src (W.setCell ⟨r, 0, none⟩ v) B b ∧ (W.setCell ⟨r, 0, none⟩ v).cell? ⟨p, 0, none⟩ = some u :=
  ⟨h.1.keep (Chg.setC (lo := r) (hi := r + 1) (p := ⟨r, 0, none⟩) ⟨Nat.le_refl _, Nat.lt_succ_self _⟩ _) (.inl h1) (.inl (by have := h.1.lt; omega)), cell_far (q := ⟨p, 0, none⟩) h.2 h3⟩
end
/-- A list that reads, in a block from lo on. -/
def Il (w : World) (lo : Nat) (v : Value) (xs : List Int) : Prop := Is w w.heap.size v xs ∧ ∀ k, v.ownBlock = some k → lo ≤ k
theorem Ow.il {w : World} {lo lo' hi : Nat} {v : Value} {xs : List Int} (h : Ow w lo hi v xs) (hl : lo' ≤ lo) : Il w lo' v xs := ⟨h.is, fun k hk => by have := (h.1.lt k hk).1; omega⟩
theorem Il.chg {w w' : World} {lo a b : Nat} {v : Value} {xs : List Int} (h : Il w lo v xs) (hc : Chg a b w w') (hd : b ≤ lo) : Il w' lo v xs := by
  obtain ⟨⟨A, n, c, rfl, h1, h2, h3⟩, hl⟩ := h
  refine ⟨⟨A, n, c, rfl, h1, h2, ⟨h3.len, fun hn => ?_⟩⟩, hl⟩
  obtain ⟨ad, rfl, hb, hcl⟩ := h3.pos hn
  have hlo := hl ad.block rfl
  refine ⟨ad, rfl, by have := hc.size; omega, fun j hj => ?_⟩
  exact (World.cell?_of_block (w := w) (hc.block _ (by rw [block_of_add]; exact hb) (by rw [block_of_add]; omega))).trans (hcl j hj)
theorem Il.later {w w' : World} {lo : Nat} {v : Value} {xs : List Int} (h : Il w lo v xs) (hb : Below w.heap.size w w') : Il w' lo v xs := h.chg (Chg.of_below hb) (Nat.zero_le _)
/-- The result's cell is written, last of all. -/
theorem fin_out {w wx : World} {B b r : Nat} {u v : Value} {xs : List Int} (v2 : Value) (hs : Src wx B b) (hc : Chg b (b + 1) w wx) (hr : Rz wx r u) (hw : w.heap.size ≤ r) (hb : b < r) (ho : Ow wx (r + 1) wx.heap.size v xs) :
    (wx.setCell ⟨r, 0, none⟩ v2).cell? ⟨r, 0, none⟩ = some v2 ∧ Ow (wx.setCell ⟨r, 0, none⟩ v2) w.heap.size (wx.setCell ⟨r, 0, none⟩ v2).heap.size v xs ∧ Dr B b w (wx.setCell ⟨r, 0, none⟩ v2) := by
  have hcs : Chg r (r + 1) wx (wx.setCell ⟨r, 0, none⟩ v2) := Chg.setC (lo := r) (hi := r + 1) (p := ⟨r, 0, none⟩) ⟨Nat.le_refl _, Nat.lt_succ_self _⟩ _
  refine ⟨(hr.set v2).1, (ho.keep hcs (.inr (Nat.le_refl _))).wide (by omega) (by simp), hs.keep hcs (.inl hb) (.inl (by have := hs.lt; omega)), ?_⟩
  exact ⟨hc.os, hc.tape, hc.output, by simpa using hc.size, fun x hx hn => (Below.heap_setCell wx ⟨r, 0, none⟩ _ x (by show x ≠ r; omega)).trans (hc.block x hx hn)⟩
theorem own_old {w : World} {lo g n c : Nat} {xs : List Int} {k : Nat} (h : w.ownsRow lo 2 1 (.slice (some ⟨g, 0, none⟩) n c) n (xs.map (Value.int .i64))) (hk : k < n) : ∃ old, w.cell? ⟨g, k, none⟩ = some old := by
  have hl : xs.length = n := by have := h.1; simpa using this
  rw [h.cellAt k (by omega)]
  exact ⟨_, List.getElem?_eq_getElem (by simp; omega)⟩
theorem Ow.n {w : World} {lo hi n : Nat} {v : Value} {xs : List Int} (h : Ow w lo hi v xs) (e : Hid (xs.length = n)) : w.ownsRow lo 2 1 v n (xs.map (Value.int .i64)) := by
  have h1 := h.1
  rw [e.out] at h1; exact h1
set_option maxHeartbeats 3200000 in
theorem l03Spoil_any (B b : Nat) (w : World) (h : Src w B b) :
    Calls Try.prog 40 #[.pointer (some ⟨b, 0, none⟩)] w fun e w' => ∃ v xs, e = .returned (.agg #[v]) ∧ Il w' w.heap.size v xs ∧ Dr B b w w' := by
  have hbw := h.here
  have hr0 := Lib.hid (Rz.new w (.slice none 0 0) 26)
  have hs0 := Lib.hid (Src.al h (.cells #[.slice none 0 0] 26))
  have hc0 := Lib.hid (Chg.al (lo := b) (hi := b + 1) w (.cells #[.slice none 0 0] 26))
  go_enter Try.func40, Try.ntmps40
  go_upto_region 1 with fail
  obtain ⟨w1, hw1⟩ : ∃ w1, w1 = w.alloc (.cells #[.slice none 0 0] 26) := ⟨_, rfl⟩
  rw [← hw1] at hr0 hs0 hc0 ⊢
  clear hw1
  go_wp2_with fail
  refine (l03Draw_any B b _ hs0.out).mono ?_
  rintro e w3 ⟨v3, xs, rfl, ow3, hxs, hs3, hc3⟩
  have c3 := hc0.out.trans hc3
  have r3 := Lib.hid (hr0.out.chg hc3 (.inr (by omega)))
  have hz1 := hr0.out.here
  have hz3 := r3.out.here
  obtain ⟨A, c, rfl, hnc, hcm⟩ := ow3.shape
  obtain ⟨n, Hn⟩ : ∃ n, Hid (xs.length = n) := ⟨_, Lib.hid rfl⟩
  have hn1 : 1 ≤ n := by rw [← Hn.out]; exact (isBr_true.1 hxs).1
  have hn7 : n ≤ 7 := by rw [← Hn.out]; exact isBr_len_le hxs
  have ho3 := Lib.hid (ow3.wide (show w.heap.size + 1 ≤ w1.heap.size from hz1) (Nat.le_refl _))
  rw [Hn.out] at hnc ho3 ⊢
  obtain ⟨g, cg, eg⟩ := Go.Joins.ownsRow_form (show w3.ownsRow (w.heap.size + 1) 2 1 (.slice A n c) n (xs.map (Value.int .i64)) by have h := ho3.out.1; rw [Hn.out] at h; exact h) (by omega)
  obtain rfl : A = some ⟨g, 0, none⟩ := by cases eg; rfl
  clear eg
  have hgl := (ho3.out.low (k := g) rfl)
  clear hs0 hc0 hr0 hc3 ow3
  have s4 := Lib.hid (Src.al hs3 (.cells #[.slice (some ⟨g, 0, none⟩) n c] 26))
  have c4 := Lib.hid (c3.trans (Chg.al (lo := b) (hi := b + 1) w3 (.cells #[.slice (some ⟨g, 0, none⟩) n c] 26)))
  have r4 := Lib.hid (r3.out.al (.cells #[.slice (some ⟨g, 0, none⟩) n c] 26))
  have x4 := Lib.hid (Rz.new w3 (.slice (some ⟨g, 0, none⟩) n c) 26)
  have o4 := Lib.hid ((ho3.out.alloc (.cells #[.slice (some ⟨g, 0, none⟩) n c] 26)).wide (Nat.le_refl _) (show w3.heap.size ≤ (w3.alloc (.cells #[.slice (some ⟨g, 0, none⟩) n c] 26)).heap.size by simp))
  clear hs3 c3 r3 ho3
  go_upto_region 2 with fail
  obtain ⟨w4, hw4⟩ : ∃ w4, w4 = w3.alloc (.cells #[.slice (some ⟨g, 0, none⟩) n c] 26) := ⟨_, rfl⟩
  have hz4 : w3.heap.size < w4.heap.size := by rw [hw4]; simp
  rw [← hw4] at s4 c4 r4 x4 o4 ⊢
  clear hw4
  go_wp2_with fail
  refine (l01Next_any B b 30 _ s4.out (by omega)).mono ?_
  rintro e w5 ⟨r5, rfl, hr5, hs5, hc5⟩
  have c5 := Lib.hid (c4.out.trans hc5)
  have r5z := Lib.hid (r4.out.chg hc5 (.inr (by omega)))
  have x5 := Lib.hid (x4.out.chg hc5 (.inr (by omega)))
  have o5 := Lib.hid ((o4.out.keep hc5 (.inr (by omega))).wide (Nat.le_refl _) hc5.size)
  have hz5 := hc5.size
  have s5 := Lib.hid hs5
  clear hr5 hs5 hc5 s4 c4 r4 x4 o4
  obtain ⟨x5c, x5f⟩ := x5.out
  obtain ⟨r5c, r5f⟩ := r5z.out
  have hi0 : (0 : Int) < (n : Int) := by omega
  have hi00 : 0 < n := by omega
  by_cases h0 : r5 = 0
  · have h0' : (r5 == 0) = true := by simp [h0]
    clear h0
    have S0 : Src w5 B b ∧ w5.cell? ⟨w3.heap.size, 0, none⟩ = some (.slice (some ⟨g, 0, none⟩) n c) := ⟨s5.out, x5c⟩
    go_wp2_with fail
    go_region_held3 (fun W => Src W B b ∧ W.cell? ⟨w3.heap.size, 0, none⟩ = some (.slice (some ⟨g, 0, none⟩) n c)) (first | exact s2_drew S0 | exact s2_drew (s2_al S0 _) | exact s2_al (s2_drew S0) _ | exact qq | exact s2_set qq _ _ (by omega) (by omega) | assumption)
      (first
        | (go_at_call 41; refine (l01Pick_any B b w5.heap.size 4 [0, -1, 65, 2] _ (by first | exact (s2_drew (s2_al S0 _)).1 | exact (s2_al (s2_drew S0) _).1) (by omega) (by omega) (by first | exact lit_own s5.out.here _ 4 rfl (by omega))).mono ?_; rintro e w6 ⟨r6, rfl, hr6, hs6, hc6⟩; have hc6' := (show Chg b (b + 1) w5 _ from by first | exact (Chg.al _ _).trans hc6 | exact (Chg.of_drew _ _ _).trans ((Chg.al _ _).trans hc6) | exact (Chg.al _ _).trans ((Chg.of_drew _ _ _).trans hc6)); have qq := And.intro hs6 ((x5.out.chg hc6' (.inr (by omega))).1); have o6 := o5.out.keep hc6' (.inr (by omega)); have f6 := (Ow.n o6 Hn).frozenAt 0; obtain ⟨old, hold⟩ := own_old (Ow.n o6 Hn) hi00))
    rename_i hH
    have hst := (Ow.n o6 Hn).stored 0 (.int .i64 r6)
    have hz6 := hc6'.size
    have r6z := r5z.out.chg hc6' (.inr (by omega))
    have c6 := c5.out.trans hc6'
    obtain ⟨wz, hwz⟩ : ∃ wz, wz = w6.setCell ⟨g, 0, none⟩ (.int .i64 r6) := ⟨_, rfl⟩
    have hcz : Chg b (b + 1) w wz := by rw [hwz]; exact ⟨c6.os, c6.tape, c6.output, by simpa using c6.size, fun x hx hn => (Below.heap_setCell w6 ⟨g, 0, none⟩ _ x (by show x ≠ g; omega)).trans (c6.block x hx hn)⟩
    have hrz : Rz wz w.heap.size (.slice none 0 0) := by rw [hwz]; exact r6z.chg (Chg.setC (lo := g) (hi := g + 1) (p := ⟨g, 0, none⟩) ⟨Nat.le_refl _, Nat.lt_succ_self _⟩ _) (.inl (by omega))
    have hoz : Ow wz (w.heap.size + 1) wz.heap.size (.slice (some ⟨g, 0, none⟩) n c) (xs.set 0 r6) := by
      refine Ow.of_own (n := n) ?_
      rw [hwz, List.map_set]; exact hst.1
    rw [← hwz] at hH ⊢
    obtain ⟨f1, f2, f3⟩ := fin_out (.slice (some ⟨g, 0, none⟩) n c) hH.1 hcz hrz (Nat.le_refl _) hbw hoz
    have F2 := Lib.hid f2; have F3 := Lib.hid f3
    obtain ⟨hrz1, hrz2⟩ := hrz
    have hxz := hH.2
    clear f2 f3 hst hwz hH hcz hoz o6 qq c6 S0
    go_wp2_with fail
    refine bodyPost_ret (v := .agg #[.slice (some ⟨g, 0, none⟩) n c]) (by simp [results, Try.results40, go_sem, f1]) rfl ?_
    first | exact ⟨_, _, rfl, Ow.il F2.out (Nat.le_refl _), F3.out⟩ | exact ⟨_, rfl, ⟨_, Ow.il F2.out (Nat.le_refl _)⟩, F3.out⟩ | exact ⟨_, rfl, _, Ow.il F2.out (Nat.le_refl _), F3.out⟩
  · have h0' : (r5 == 0) = false := by rw [beq_eq_false_iff_ne]; exact h0
    clear h0
    by_cases h1 : r5 = 1
    · have h1' : (r5 == 1) = true := by simp [h1]
      clear h1
      have S0 : Src w5 B b ∧ w5.cell? ⟨w.heap.size, 0, none⟩ = some (.slice none 0 0) := ⟨s5.out, r5c⟩
      have X1 : ∀ o, (w5.alloc o).cell? ⟨w3.heap.size, 0, none⟩ = some (.slice (some ⟨g, 0, none⟩) n c) := fun o => (x5.out.al o).1
      go_wp2_with fail
      go_region_law
        (first
          | (go_simp; go_at_call 41; refine (l01Pick_any B b w5.heap.size 4 [2001, 1999, 5, 1099511627776] _ (by first | exact (s2_drew (s2_al S0 _)).1 | exact (s2_al (s2_drew S0) _).1) (by omega) (by omega) (by first | exact lit_own s5.out.here _ 4 rfl (by omega))).mono ?_; rintro e w6 ⟨r6, rfl, hr6, hs6, hc6⟩; have hc6' := (show Chg b (b + 1) w5 _ from by first | exact (Chg.al _ _).trans hc6 | exact (Chg.of_drew _ _ _).trans ((Chg.al _ _).trans hc6) | exact (Chg.al _ _).trans ((Chg.of_drew _ _ _).trans hc6)); have x6 := x5.out.chg hc6' (.inr (by omega)); have x6c := x6.1; have x6d := fun o => (x6.al o).1; have hz6 := hc6'.size; have o6 := Lib.hid (Ow.n (o5.out.keep hc6' (.inr (by omega))) Hn))
          | (refine step_append_i (by rfl) _ _ (by rfl) (w.heap.size + 1) (.slice (some ⟨g, 0, none⟩) n c) n xs (by simp [Act.eval]) (o6.out.alloc _) w6.heap.size r6 1 (by simp [Act.eval]) (by simp [go_sem]) (by omega) (by simp; omega) ?_; intro g' cap' w7 hown7 hgrow hat hlt7; have x7 := (x6.al _).grown hgrow (fun k e => by cases e; show w3.heap.size ≠ g; omega); obtain ⟨x7c, x7f⟩ := x7))
      all_goals
        have r7 := ((r5z.out.chg hc6' (.inr (by omega))).al (.cells #[.int .i64 r6] 2)).grown hgrow (fun k e => by have := (o6.out.lt k e).1; omega)
        have s7 := src_grow (lo := w.heap.size) hs6 (.cells #[.int .i64 r6] 2) hgrow hbw (fun k e => by have := (o6.out.lt k e).1; omega)
        have c7 := chg_grow (c5.out.trans hc6') (.cells #[.int .i64 r6] 2) hgrow (fun k e => by have := (o6.out.lt k e).1; omega)
        have o7 := Ow.of_own (xs := xs ++ [r6]) (n := n + 1) (lo := w.heap.size + 1) (by simpa using hown7)
        have hgx : g' ≠ w3.heap.size := by
          rcases hat with e | e
          · have : g = g' := by simpa [Value.ownBlock] using e
            omega
          · rw [e]; simp; omega
        obtain ⟨wz, hwz⟩ : ∃ wz, wz = w7.setCell ⟨w3.heap.size, 0, none⟩ (.slice (some ⟨g', 0, none⟩) (n + 1) cap') := ⟨_, rfl⟩
        have hcs : Chg w3.heap.size (w3.heap.size + 1) w7 wz := by rw [hwz]; exact Chg.setC (lo := w3.heap.size) (hi := w3.heap.size + 1) (p := ⟨w3.heap.size, 0, none⟩) ⟨Nat.le_refl _, Nat.lt_succ_self _⟩ _
        have hxz : wz.cell? ⟨w3.heap.size, 0, none⟩ = some (.slice (some ⟨g', 0, none⟩) (n + 1) cap') := by rw [hwz]; exact (Rz.set ⟨x7c, x7f⟩ _).1
        have hsz := s7.keep hcs (.inl (by omega)) (.inl (by have := s7.lt; omega))
        have hcz : Chg b (b + 1) w wz := by rw [hwz]; exact ⟨c7.os, c7.tape, c7.output, by simpa using c7.size, fun x hx hn => (Below.heap_setCell w7 ⟨w3.heap.size, 0, none⟩ _ x (by show x ≠ w3.heap.size; omega)).trans (c7.block x hx hn)⟩
        have hrz := r7.chg hcs (.inl (by omega))
        have hoz : Ow wz (w.heap.size + 1) wz.heap.size (.slice (some ⟨g', 0, none⟩) (n + 1) cap') (xs ++ [r6]) := by
          have hst := hown7.kept (row := some w3.heap.size) (w' := wz) ⟨hcs.os, hcs.tape, hcs.output, hcs.size, fun k hk hne => hcs.block k hk (by intro hh; exact hne (by simp; omega))⟩ (.inr (by simpa [Value.ownBlock] using hgx))
          exact Ow.of_own (n := n + 1) (by simpa using hst)
        rw [← hwz]
        obtain ⟨f1, f2, f3⟩ := fin_out (.slice (some ⟨g', 0, none⟩) (n + 1) cap') hsz hcz hrz (Nat.le_refl _) hbw hoz
        have F2 := Lib.hid f2; have F3 := Lib.hid f3
        obtain ⟨hrz1, hrz2⟩ := hrz
        clear f2 f3 hwz hcz hoz hsz hcs o6 o7 x6 x6c x6d x7c x7f hown7 hgrow hat r7 s7 c7 S0 X1
        go_wp2_with fail
        refine bodyPost_ret (v := .agg #[.slice (some ⟨g', 0, none⟩) (n + 1) cap']) (by simp [results, Try.results40, go_sem, f1]) rfl ?_
        first | exact ⟨_, _, rfl, Ow.il F2.out (Nat.le_refl _), F3.out⟩ | exact ⟨_, rfl, ⟨_, Ow.il F2.out (Nat.le_refl _)⟩, F3.out⟩ | exact ⟨_, rfl, _, Ow.il F2.out (Nat.le_refl _), F3.out⟩
    · have h1' : (r5 == 1) = false := by rw [beq_eq_false_iff_ne]; exact h1
      clear h1
      by_cases h2 : r5 = 2
      · have h2' : (r5 == 2) = true := by simp [h2]
        clear h2
        have hcs := fun v => Chg.setC (lo := w3.heap.size) (hi := w3.heap.size + 1) (w := w5) (p := ⟨w3.heap.size, 0, none⟩) ⟨Nat.le_refl _, Nat.lt_succ_self _⟩ v
        have hsz := fun v => s5.out.keep (hcs v) (.inl (by omega)) (.inl (by have := s5.out.lt; omega))
        have hcz : ∀ v, Chg b (b + 1) w (w5.setCell ⟨w3.heap.size, 0, none⟩ v) := fun v => ⟨c5.out.os, c5.out.tape, c5.out.output, by simpa using c5.out.size, fun x hx hn => (Below.heap_setCell w5 ⟨w3.heap.size, 0, none⟩ _ x (by show x ≠ w3.heap.size; omega)).trans (c5.out.block x hx hn)⟩
        have hrz := fun v => r5z.out.chg (hcs v) (.inl (by omega))
        have hoz : ∀ v, Ow (w5.setCell ⟨w3.heap.size, 0, none⟩ v) (w.heap.size + 1) (w5.setCell ⟨w3.heap.size, 0, none⟩ v).heap.size (.slice (some ⟨g, 0, none⟩) n c) xs := fun v => by
          have hst := o5.out.1.kept (row := some w3.heap.size) (w' := w5.setCell ⟨w3.heap.size, 0, none⟩ v) ⟨(hcs v).os, (hcs v).tape, (hcs v).output, (hcs v).size, fun k hk hne => (hcs v).block k hk (by intro hh; exact hne (by simp; omega))⟩ (.inr (by simp [Value.ownBlock]; omega))
          exact Ow.of_own hst
        have hfin := fun v => fin_out v (hsz v) (hcz v) (hrz v) (Nat.le_refl _) hbw (hoz v)
        have Hf := Lib.hid hfin
        have hq1 := fun v => (hrz v).1
        have hq2 := fun v => (hrz v).2
        have hq3 : ∀ v, (w5.setCell ⟨w3.heap.size, 0, none⟩ v).cell? ⟨w3.heap.size, 0, none⟩ = some v := fun v => (x5.out.set v).1
        clear hfin hoz hrz hcz hsz hcs
        by_cases hc1 : c = 1
        · obtain rfl : n = 1 := by omega
          subst hc1
          obtain ⟨f1, f2, f3⟩ := Hf.out (.slice (some ⟨g, 0, none⟩) 0 0)
          have F3 := Lib.hid f3
          clear f2 f3
          go_wp2_with fail
          refine bodyPost_ret (v := .agg #[.slice (some ⟨g, 0, none⟩) 0 0]) (by simp [results, Try.results40, go_sem, f1]) rfl ?_
          have hnil : Is ((w5.setCell ⟨w3.heap.size, 0, none⟩ (.slice (some ⟨g, 0, none⟩) 0 0)).setCell ⟨w.heap.size, 0, none⟩ (.slice (some ⟨g, 0, none⟩) 0 0)) ((w5.setCell ⟨w3.heap.size, 0, none⟩ (.slice (some ⟨g, 0, none⟩) 0 0)).setCell ⟨w.heap.size, 0, none⟩ (.slice (some ⟨g, 0, none⟩) 0 0)).heap.size (.slice (some ⟨g, 0, none⟩) 0 0) [] := ⟨_, 0, 0, rfl, by omega, by unfold maxLen; omega, ⟨rfl, fun h => by omega⟩⟩
          have hnil : Il _ w.heap.size _ _ := ⟨hnil, fun k hk => by (have hgk : g = k := by simpa [Value.ownBlock] using hk); omega⟩
          first | exact ⟨_, _, rfl, hnil, F3.out⟩ | exact ⟨_, rfl, ⟨_, hnil⟩, F3.out⟩ | exact ⟨_, rfl, _, hnil, F3.out⟩
        · have hc2 : 2 ≤ c := by omega
          obtain ⟨f1, f2, f3⟩ := Hf.out (.slice (some ⟨g, 1, none⟩) (n - 1) (c - 1))
          have F2 := Lib.hid (show Il _ w.heap.size _ _ from ⟨tail_is f2.is hn1 hnc (by unfold maxLen; omega), fun k hk => by (have hgk : g = k := by simpa [Value.ownBlock] using hk); omega⟩)
          have F3 := Lib.hid f3
          clear f2 f3
          go_wp2_with fail
          refine bodyPost_ret (v := .agg #[.slice (some ⟨g, 1, none⟩) (n - 1) (c - 1)]) (by simp [results, Try.results40, go_sem, f1]) rfl ?_
          first | exact ⟨_, _, rfl, F2.out, F3.out⟩ | exact ⟨_, rfl, ⟨_, F2.out⟩, F3.out⟩ | exact ⟨_, rfl, _, F2.out, F3.out⟩
      · have h2' : (r5 == 2) = false := by rw [beq_eq_false_iff_ne]; exact h2
        clear h2
        obtain ⟨f1, f2, f3⟩ := fin_out (.slice (some ⟨g, 0, none⟩) n c) s5.out c5.out r5z.out (Nat.le_refl _) hbw o5.out
        have F2 := Lib.hid f2; have F3 := Lib.hid f3
        clear f2 f3
        go_wp2_with fail
        refine bodyPost_ret (v := .agg #[.slice (some ⟨g, 0, none⟩) n c]) (by simp [results, Try.results40, go_sem, f1]) rfl ?_
        first | exact ⟨_, _, rfl, Ow.il F2.out (Nat.le_refl _), F3.out⟩ | exact ⟨_, rfl, ⟨_, Ow.il F2.out (Nat.le_refl _)⟩, F3.out⟩ | exact ⟨_, rfl, _, Ow.il F2.out (Nat.le_refl _), F3.out⟩
end WF
end Go.Proofs.Ytcnoaclijhcckaa
