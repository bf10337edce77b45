/-
  WALKS, DRAWS: a spoilt polynomial with its length; sums of lists that are no polynomials.
  WALKS, DRAWS: numbers for cyclotomic polynomials, products of such polynomials.
  WALKS, DRAWS: binomial products.
-/
import Derived.Test.YtogkblncdpbhnaaWlkF11
import Derived.Test.YtogkblncdpbhnaaWlkBB
import Derived.Test.YtogkblncdpbhnaaWlkBC
import Derived.Test.YtogkblncdpbhnaaWlkY2
import Derived.Test.YtogkblncdpbhnaaPlCA
import Derived.Test.YtogkblncdpbhnaaWlkR1
namespace Go.Proofs.Ytogkblncdpbhnaa
open Go.RowKit
set_option linter.unusedVariables false
namespace WF
open K Pl WA WB
set_option maxHeartbeats 3200000 in
theorem l02Spoil_len (B b : Nat) (w : World) (h : Src w B b) :
    Calls Try.prog 23 #[.pointer (some ⟨b, 0, none⟩)] w fun e w' => ∃ v xs, e = .returned v ∧ Ow w' w.heap.size w'.heap.size v xs ∧ xs.length ≤ 2100 ∧ Dr B b w w' := by
  have hbw := h.here
  have hs0 := Lib.hid (Src.al h (.cells #[.int .i64 3, .int .i64 5, .int .i64 8] 2))
  have hc0 := Lib.hid (Chg.al (lo := b) (hi := b + 1) w (.cells #[.int .i64 3, .int .i64 5, .int .i64 8] 2))
  go_enter Try.func23, Try.ntmps23
  go_wp2_with fail
  refine (l01Pick_any B b w.heap.size 3 [3, 5, 8] _ hs0.out (by omega) (by omega) (lit_own hbw _ 3 rfl (by omega))).mono ?_
  rintro e w1 ⟨p, rfl, hp, hs1, hc1⟩
  have hp2 : 0 ≤ p ∧ p ≤ 100 := by simp at hp; omega
  have c1 := hc0.out.trans hc1
  have z1 := c1.size
  clear hp hc1 hs0 hc0
  go_wp2_with fail
  refine (l02Draw_any B b p _ hs1 hp2).mono ?_
  rintro e w2 ⟨v2, xs, rfl, o2, hl2, hs2, hc2⟩
  have c2 := c1.trans hc2
  obtain ⟨A, c, rfl, hnc, hcm⟩ := o2.shape
  obtain ⟨n, Hn⟩ : ∃ n, Hid (xs.length = n) := ⟨_, Lib.hid rfl⟩
  have O2 := Lib.hid (o2.wide z1 (Nat.le_refl _))
  have z2 := c2.size
  rw [Hn.out] at hl2 hnc O2 ⊢
  clear hs1 c1 hc2 o2
  go_wp2_with fail
  refine (l01Next_any B b 30 _ hs2 (by omega)).mono ?_
  rintro e w3 ⟨r3, rfl, hr3, hs3, hc3⟩
  have c3 := c2.trans hc3
  have O3 := Lib.hid ((O2.out.keep hc3 (.inr (by omega))).wide (Nat.le_refl _) hc3.size)
  have z3 := c3.size
  clear hr3 hs2 hc3 c2 O2
  by_cases h0 : r3 = 0
  · have h0' : (r3 == 0) = true := by simp [h0]
    clear h0
    have hrow : w3.ownsRow w.heap.size 2 1 (.slice A n c) n (xs.map (Value.int .i64)) := by have h := O3.out.1; rw [Hn.out] at h; exact h
    go_wp2_with (at_builtin; refine wp_append_i rfl _ _ rfl w.heap.size _ n xs rfl (hrow.alloc _) w3.heap.size 0 1 rfl (by simp) (by omega) (by simp; omega) ?_)
    intro g' cap' w7 hown7 hgrow hat hlt7
    have c7 := chg_grow c3 _ hgrow (fun k e => (hrow.lt k e).1)
    have hs7 := src_grow (lo := w.heap.size) hs3 _ hgrow hbw (fun k e => (hrow.lt k e).1)
    have hfin := Lib.hid (Ow.of_own (n := n + 1) (xs := xs ++ [0]) (by simpa using hown7))
    clear hown7 hgrow hat hrow O3
    go_wp2
    go_ret
    have hlen : (xs ++ [(0 : Int)]).length ≤ 2100 := by rw [List.length_append, Hn.out]; simp; omega
    first | exact ⟨_, _, rfl, hfin.out, hlen, hs7, c7⟩ | exact ⟨_, rfl, _, hfin.out, hlen, hs7, c7⟩
  · have h0' : (r3 == 0) = false := by rw [beq_eq_false_iff_ne]; exact h0
    clear h0
    by_cases h1 : r3 = 1
    · have h1' : (r3 == 1) = true := by simp [h1]
      clear h1
      go_wp2_with fail
      refine (l01Pick_any B b w3.heap.size 4 [1000000000000, -1000000000000, 1000000000001, -4611686018427387904] _ (Src.al hs3 _) (by omega) (by omega) (lit_own hs3.here _ 4 rfl (by omega))).mono ?_
      rintro e w4 ⟨r4, rfl, hr4, hs4, hc4⟩
      have c4 := (c3.trans (Chg.al _ _)).trans hc4
      have z4 := c4.size
      have hrow : w4.ownsRow w.heap.size 2 1 (.slice A n c) n (xs.map (Value.int .i64)) := by have h := (((O3.out.alloc _).keep hc4 (.inr (by omega)))).1; rw [Hn.out] at h; exact h
      clear hr4 hc4 hs3 c3 O3
      go_wp2_with (at_builtin; refine wp_append_i rfl _ _ rfl w.heap.size _ n xs rfl (hrow.alloc _) w4.heap.size r4 1 rfl (by simp) (by omega) (by simp; omega) ?_)
      intro g' cap' w7 hown7 hgrow hat hlt7
      have c7 := chg_grow c4 _ hgrow (fun k e => (hrow.lt k e).1)
      have hs7 := src_grow (lo := w.heap.size) hs4 _ hgrow hbw (fun k e => (hrow.lt k e).1)
      have hfin := Lib.hid (Ow.of_own (n := n + 1) (xs := xs ++ [r4]) (by simpa using hown7))
      clear hown7 hgrow hat hrow
      go_wp2
      go_ret
      have hlen : (xs ++ [r4]).length ≤ 2100 := by rw [List.length_append, Hn.out]; simp; omega
      first | exact ⟨_, _, rfl, hfin.out, hlen, hs7, c7⟩ | exact ⟨_, rfl, _, hfin.out, hlen, hs7, c7⟩
    · have h1' : (r3 == 1) = false := by rw [beq_eq_false_iff_ne]; exact h1
      clear h1
      by_cases h2 : r3 = 2
      · have h2' : (r3 == 2) = true := by simp [h2]
        clear h2
        obtain ⟨i0, hi, hz0, hz1, hz2⟩ := info_parts info64
        have Hi := Lib.hid hi; have Hz0 := Lib.hid hz0; have Hz1 := Lib.hid hz1; have Hz2 := Lib.hid hz2
        clear hi hz0 hz1 hz2
        go_wp2_with fail
        refine (l01Pick_any B b w3.heap.size 3 [1999, 2000, 2001] _ (Src.al hs3 _) (by omega) (by omega) (lit_own hs3.here _ 3 rfl (by omega))).mono ?_
        rintro e w4 ⟨r4, rfl, hr4, hs4, hc4⟩
        have c4 := (c3.trans (Chg.al _ _)).trans hc4
        have z4 := c4.size
        have hr4b : 1999 ≤ r4 ∧ r4 ≤ 2001 := by simp at hr4; omega
        obtain ⟨N, rfl⟩ := Int.eq_ofNat_of_zero_le (show 0 ≤ r4 by omega)
        clear hr4 hc4 hs3 c3 O3
        go_wp2_with (at_make; refine wpList_make_full _ rfl _ _ 24 rfl w4.heap.size 2 i0 (.int .i64 0) 1 Try.underlying24 Hi.out Hz0.out Hz1.out _ _ _ _ N rfl rfl rfl rfl ?mkb ?mkc ?mkd ?_)
        case mkb => rw [Hz2.out]; omega
        case mkc => unfold maxLen; omega
        case mkd => simp
        intro w5 hown hgrow5
        have hrow : w5.ownsRow w4.heap.size 2 1 (.slice (some ⟨w4.heap.size, 0, none⟩) N N) N ((List.replicate N (0 : Int)).map (Value.int .i64)) := by
          rw [List.map_replicate]
          have e : (madeCells (Value.int IntKind.i64 0).cells (N * 1)).toList = List.replicate N (Value.int .i64 0) := by
            rw [Nat.mul_one]; exact toList_madeCells_one _ N
          rw [← e, Nat.mul_one]; exact hown
        have hb5 : Below w4.heap.size w4 w5 := (Below.refl _ _).grown hgrow5 (Nat.le_refl _) (by simp)
        have hs5 := hs4.later hb5
        have c5 := c4.trans ((Chg.of_below hb5).wide (lo' := b) (hi' := b + 1) (.inr rfl) (by omega))
        have z5 := hb5.size
        clear hown hgrow5 hb5 hs4 c4
        go_wp2_with (at_builtin; refine wp_append_i rfl _ _ rfl w4.heap.size _ N (List.replicate N 0) rfl (hrow.alloc _) w5.heap.size 1 1 rfl (by simp) (by omega) (by simp; omega) ?_)
        intro g' cap' w7 hown7 hgrow hat hlt7
        have c7 := chg_grow c5 _ hgrow (fun k e => by have := (hrow.lt k e).1; omega)
        have hs7 := src_grow (lo := w.heap.size) hs5 _ hgrow hbw (fun k e => by have := (hrow.lt k e).1; omega)
        have hfin := Lib.hid ((Ow.of_own (n := N + 1) (xs := List.replicate N 0 ++ [1]) (lo := w4.heap.size) (by simpa using hown7)).wide (lo' := w.heap.size) z4 (Nat.le_refl _))
        clear hown7 hgrow hat hrow
        go_wp2
        go_ret
        have hlen : (List.replicate N (0 : Int) ++ [1]).length ≤ 2100 := by rw [List.length_append, List.length_replicate]; simp; omega
        first | exact ⟨_, _, rfl, hfin.out, hlen, hs7, c7⟩ | exact ⟨_, rfl, _, hfin.out, hlen, hs7, c7⟩
      · have h2' : (r3 == 2) = false := by rw [beq_eq_false_iff_ne]; exact h2
        clear h2
        go_wp2
        go_ret
        have hlen : xs.length ≤ 2100 := by rw [Hn.out]; omega
        first | exact ⟨_, _, rfl, O3.out, hlen, hs3, c3⟩ | exact ⟨_, rfl, _, O3.out, hlen, hs3, c3⟩
end WF
namespace WB
open K Pl WA
set_option maxHeartbeats 1600000 in
theorem l02Plus_gen (B : Nat) (v v2 : Value) (xs ys : List Int) (k : Int) (w : World) (h : Is w B v xs) (h2 : Is w B v2 ys) (hB : B ≤ w.heap.size) (hxl : xs.length ≤ 2100) (hyl : ys.length ≤ 2100) (hco : ∀ j, (-1000000000000 ≤ gx xs j ∧ gx xs j ≤ 1000000000000) ∧ -1000000000000 ≤ k * gx ys j ∧ k * gx ys j ≤ 1000000000000) (hk : k = 0 ∨ k = 1) :
    Calls Try.prog 24 #[v, v2, .int .i64 k] w (Li1 (trimL (addK xs k ys)) w) := by
  have Hco := Lib.hid hco
  have Hp := Lib.hid h
  obtain ⟨A2, m, c2, rfl, hmc, hcm2, hrd2⟩ := h2
  have Hlen2 := Lib.hid hrd2.len
  obtain ⟨n, Hlen⟩ : ∃ n, Hid (xs.length = n) := ⟨_, Lib.hid rfl⟩
  have hn' : n ≤ 2100 := by rw [← Hlen.out]; exact hxl
  have hm' : m ≤ 2100 := by rw [← hrd2.len]; exact hyl
  unfold maxLen at hcm2
  have Hrd2 := Lib.hid hrd2
  have hkb : -1000000000000 ≤ k ∧ k ≤ 1000000000000 := by omega
  clear hco hxl hyl hk h hrd2
  go_enter Try.func24, Try.ntmps24
  go_wp2_with fail
  refine (l01Own_any B v xs _ Hp.out hB (by rw [Hlen.out]; omega)).mono ?_
  rintro e w1 ⟨v1, rfl, own1, hb1⟩
  obtain ⟨A, c, rfl, hnc, hcm⟩ := own_shape own1.1
  have Ho1 := Lib.hid own1.1
  rw [Hlen.out] at Ho1 hnc ⊢
  clear own1
  go_wp2
  go_loopw [7] (fun u wr => ∃ (A : Option Addr) (c l t : Nat), u = .slice A l c ∧ l ≤ c ∧ c ≤ 9223372036854775807 ∧ Hid (l = n + t) ∧ (t = 0 ∨ l ≤ m) ∧ Hid (wr.ownsRow w.heap.size 2 1 (.slice A l c) l ((xs ++ List.replicate t 0).map (Value.int .i64))) ∧ Below w.heap.size w wr) (fun u _ => match u with | .slice _ l _ => m - l | _ => 0)
  case atStart => exact ⟨A, c, n, 0, rfl, hnc, hcm, Lib.hid rfl, .inl rfl, Lib.hid (by simpa using Ho1.out), hb1⟩
  case round =>
    clear Ho1 hb1 hnc hcm
    obtain ⟨A, c, l, t, rfl, hlc, hcm, hlt, htm, hown, hbe⟩ := hrel
    by_cases hlm : l < m
    · have hsz := hbe.size
      obtain ⟨acc, Hacc⟩ : ∃ acc, Hid (acc = xs ++ List.replicate t 0) := ⟨_, Lib.hid rfl⟩
      have Hal : Hid (acc.length = l) := Lib.hid (by have := hlt.out; rw [Hacc.out]; simp [Hlen.out]; omega)
      have hown' : wr.ownsRow w.heap.size 2 1 (.slice A l c) acc.length (acc.map (Value.int .i64)) := by rw [Hal.out, Hacc.out]; exact hown.out
      have hal : acc.length < 1000000000 := by rw [Hal.out]; omega
      clear hown
      go_wp2_with (at_builtin; refine wp_append_int rfl _ _ rfl w.heap.size _ acc rfl (hown'.alloc _) wr.heap.size 0 1 rfl (by simp) (by omega) (by simp; omega) ?_)
      intro v' w2 hown2 hgrow
      have hbe2 := below_append hbe hbe.size hown' (Nat.le_refl _) hgrow
      have hown3 : w2.ownsRow w.heap.size 2 1 v' (l + 1) ((acc ++ [0]).map (Value.int .i64)) := by
        have e : (acc ++ [0]).length = l + 1 := by simp; exact Hal.out
        rw [← e]; simpa using hown2
      obtain ⟨A', c', rfl, hlc', hcm'⟩ := own_shape hown3
      have Hown2 := Lib.hid hown3
      clear hown2 hgrow hown' hown3
      go_wp2
      go_roundw
      case rel => exact ⟨A', c', l + 1, t + 1, by simp, hlc', hcm', Lib.hid (by have := hlt.out; omega), .inr (by omega), Lib.hid (by have e := Hown2.out; rw [Hacc.out, List.append_assoc, ← List.replicate_succ'] at e; exact e), hbe2⟩
      case measure => first | (simp; done) | (simp; omega)
    · obtain ⟨HN⟩ : Nonempty (Hid (l = max xs.length ys.length)) := ⟨Lib.hid (by have := hlt.out; rw [Hlen.out, Hlen2.out]; omega)⟩
      have hl' : l ≤ 2100 := by have := hlt.out; omega
      have Hown0 := Lib.hid (show wr.ownsRow w.heap.size 2 1 (.slice A l c) l ((addk xs k ys l 0).map (Value.int .i64)) by
        rw [addk_zero xs k ys l (by have := hlt.out; rw [Hlen.out]; omega), Hlen.out, show l - n = t by have := hlt.out; omega]; exact hown.out)
      clear hown htm
      go_wp2
      go_loopw [8] (fun i wr => ∃ j : Nat, j ≤ m ∧ i = .int .i64 j ∧ Hid (wr.ownsRow w.heap.size 2 1 (.slice A l c) l ((addk xs k ys l j).map (Value.int .i64))) ∧ Below w.heap.size w wr) (fun i _ => m - (intOf i).toNat)
      case atStart => exact ⟨0, Nat.zero_le _, rfl, Hown0, hbe⟩
      case round =>
        clear Hown0 hbe
        obtain ⟨j, hj, rfl, hown, hbe⟩ := hrel
        by_cases hjm : j < m
        · obtain ⟨ad, rfl, hab, hc⟩ := Hrd2.out.pos (by omega)
          obtain ⟨g, cap, e⟩ := Go.Joins.ownsRow_form hown.out (by omega)
          cases e
          have hc1 := ((hbe.mono hB).cell (p := ad.add j) (by rw [block_of_add]; omega)).trans (hc j hjm)
          obtain ⟨hcx, hfr, hst⟩ := add_round (w := w) hown.out (show j < l by omega)
          have hlo := (hown.out.lt g rfl).1
          have hbx := (Hco.out j).1
          have hby := (Hco.out j).2
          have hi1 : 0 ≤ (j : Int) ∧ (j : Int) < (l : Int) := by omega
          have hbe2 := Lib.hid (show Below w.heap.size w _ from hbe.setCell (p := ⟨g, j, none⟩) hlo (.int .i64 (gx xs j + k * gx ys j)))
          have Hst := Lib.hid hst
          clear hst hc hown hbe
          go_wp2
          go_region
          go_wp2
          go_roundw
          case rel => exact ⟨j + 1, by omega, by go_num, Lib.hid Hst.out.drew, ⟨hbe2.out.os, hbe2.out.tape, hbe2.out.output, hbe2.out.size, hbe2.out.block⟩⟩
          case measure => first | (simp [intOf]; done) | (simp [intOf]; omega)
        · obtain rfl : j = m := by omega
          have Hall := Lib.hid (show addk xs k ys l j = addK xs k ys by rw [HN.out, ← Hlen2.out]; exact addk_all xs k ys)
          have Ho := Lib.hid (show Ow wr w.heap.size wr.heap.size (.slice A l c) (addK xs k ys) from Ow.of_own (n := l) (by rw [← Hall.out]; exact hown.out))
          have Hl := Lib.hid (show (addK xs k ys).length < 1000000000 by rw [addK_len, ← HN.out]; omega)
          clear hown
          go_wp2_with fail
          refine (l02Trim_any _ _ _ _ Ho.out.is (Nat.le_refl _) Hl.out).mono ?_
          rintro e w2 ⟨v2, rfl, own2, hb2⟩
          go_wp2_with fail
          go_ret
          have hs := hbe.size
          exact ⟨v2, rfl, ⟨own_base own2.1 hs, own2.2⟩, hbe.trans (hb2.mono hs)⟩
end WB
end Go.Proofs.Ytogkblncdpbhnaa
namespace Go.Proofs.Ytogkblncdpbhnaa
open Go.RowKit
set_option linter.unusedVariables false
namespace WF
open K Pl WA WB WY
theorem beqT {a b : Int} (h : a = b) : (a == b) = true := by simp [h]
theorem beqF {a b : Int} (h : a ≠ b) : (a == b) = false := by simp [h]
/-- A list that reads, in a block from lo on. -/
def Il (w : World) (lo : Nat) (v : Value) (xs : List Int) : Prop := Is w w.heap.size v xs ∧ ∀ k, v.ownBlock = some k → lo ≤ k
theorem Ow.il {w : World} {lo lo' hi : Nat} {v : Value} {xs : List Int} (h : Ow w lo hi v xs) (hl : lo' ≤ lo) : Il w lo' v xs := ⟨h.is, fun k hk => by have := (h.1.lt k hk).1; omega⟩
theorem Il.chg {w w' : World} {lo a b : Nat} {v : Value} {xs : List Int} (h : Il w lo v xs) (hc : Chg a b w w') (hd : b ≤ lo) : Il w' lo v xs := by
  obtain ⟨⟨A, n, c, rfl, h1, h2, h3⟩, hl⟩ := h
  refine ⟨⟨A, n, c, rfl, h1, h2, ⟨h3.len, fun hn => ?_⟩⟩, hl⟩
  obtain ⟨ad, rfl, hb, hcl⟩ := h3.pos hn
  have hlo := hl ad.block rfl
  refine ⟨ad, rfl, by have := hc.size; omega, fun j hj => ?_⟩
  exact (World.cell?_of_block (w := w) (hc.block _ (by rw [block_of_add]; exact hb) (by rw [block_of_add]; omega))).trans (hcl j hj)
theorem Il.later {w w' : World} {lo : Nat} {v : Value} {xs : List Int} (h : Il w lo v xs) (hb : Below w.heap.size w w') : Il w' lo v xs := h.chg (Chg.of_below hb) (Nat.zero_le _)
theorem prodP_keeps {xs ys : List Int} (hp : isPoly xs = true) (hq : isPoly ys = true) : isPoly (prodP xs ys).1 = true := by
  rcases prodP_code xs ys with h | h
  · exact prodP_isPoly (out := (prodP xs ys).1) (by rw [← h]) hp hq
  · rw [h]; decide
theorem l02Times_any (B : Nat) (v v2 : Value) (xs ys : List Int) (w : World) (h : Is w B v xs) (h2 : Is w B v2 ys) (hB : B ≤ w.heap.size) (hp : isPoly xs = true) (hq : isPoly ys = true) :
    Calls Try.prog 22 #[v, v2] w (Li1 (prodP xs ys).1 w) := by
  go_enter Try.func22, Try.ntmps22
  go_wp2_with fail
  refine (l02Product_any B v v2 xs ys _ h h2 hB hp hq).mono ?_
  rintro e w1 ⟨v1, rfl, o1, hb1⟩
  obtain ⟨A, c, rfl, _, _⟩ := o1.shape
  have O1 := Lib.hid o1
  clear o1
  go_wp2
  go_ret
  exact ⟨_, rfl, O1.out, hb1⟩
theorem DrawCyclotomicPolynomial_any (B : Nat) (v : Value) (n : Nat) (w : World) (h : IsY w B v n) (hB : B ≤ w.heap.size) :
    Calls Try.prog 12 #[v] w fun e w' => ∃ z : Int, e = .returned (.int .i64 z) ∧ (0 ≤ z ∧ z ≤ 2001) ∧ Below w.heap.size w w' := by
  go_enter Try.func12, Try.ntmps12
  go_wp2_with fail
  refine (l01From_any B v n _ h hB).mono ?_
  rintro e w1 ⟨rfl, hs1, hb1⟩
  have hz := hb1.size
  go_wp2_with fail
  refine (l01Next_any B _ 30 _ hs1 (by omega)).mono ?_
  rintro e w2 ⟨r2, rfl, hr2, hs2, hc2⟩
  have p2 := hr2.1; have p2' := hr2.2.1 (by omega)
  clear hr2 hs1
  go_wp2_with fail
  refine (l01Next_any B _ 120 _ hs2 (by omega)).mono ?_
  rintro e w3 ⟨r3, rfl, hr3, hs3, hc3⟩
  have p3 := hr3.1; have p3' := hr3.2.1 (by omega)
  clear hr3 hs2
  go_wp2_with fail
  refine (l01Pick_any B _ w3.heap.size 7 [1 + r2, 1 + r3, 105, 385, 2000, 0, 2001] _ (Src.al hs3 _) (by omega) (by omega) (lit_own hs3.here _ 7 rfl (by omega))).mono ?_
  rintro e w4 ⟨r4, rfl, hr4, hs4, hc4⟩
  have hfin := hb1.trans ((((hc2.trans hc3).trans (Chg.al _ _)).trans hc4).below hz (.inl (Nat.le_refl _)))
  have p4 : 0 ≤ r4 ∧ r4 ≤ 2001 := by simp at hr4; omega
  go_wp2
  go_ret
  exact ⟨r4, rfl, p4, hfin⟩
set_option maxHeartbeats 3200000 in
theorem DrawCyclotomicFactors_any (B : Nat) (v : Value) (n : Nat) (w : World) (h : IsY w B v n) (hB : B ≤ w.heap.size) :
    Calls Try.prog 5 #[v] w fun e w' => ∃ v' xs, e = .returned v' ∧ Is w' w'.heap.size v' xs ∧ Below w.heap.size w w' := by
  go_enter Try.func5, Try.ntmps5
  go_wp2_with fail
  refine (l01From_any B v n _ h hB).mono ?_
  rintro e w1 ⟨rfl, hs1, hb1⟩
  have hz1 := hb1.size
  obtain ⟨b, heb⟩ : ∃ b, w.heap.size = b := ⟨_, rfl⟩
  have hbw : b < w1.heap.size := by rw [← heb]; exact hs1.here
  rw [heb] at hs1 hb1 hz1 ⊢
  go_wp2_with fail
  refine (l01Pick_any B b w1.heap.size 2 [1, -1] _ (Src.al hs1 _) (by omega) (by omega) (lit_own hs1.here _ 2 rfl (by omega))).mono ?_
  rintro e w2 ⟨r2, rfl, hr2, hs2, hc2⟩
  have p2 : r2 = 1 ∨ r2 = -1 := by simpa using hr2
  have b2 := (hb1.alloc hz1 (.cells #[.int .i64 1, .int .i64 (-1)] 2)).trans (hc2.below (by simp; omega) (.inl (Nat.le_refl _)))
  have hz2 := hc2.size
  simp at hz2
  have hp2 : isPoly [r2] = true := by rcases p2 with rfl | rfl <;> decide
  have o2 : Ow (w2.alloc (.cells #[.int .i64 r2] 2)) w2.heap.size (w2.alloc (.cells #[.int .i64 r2] 2)).heap.size (.slice (some ⟨w2.heap.size, 0, none⟩) 1 1) [r2] := Ow.of_own (n := 1) (World.ownsRow_lit (base := w2.heap.size) (e := 2) (size := 1) w2 #[.int .i64 r2] 1 (Nat.le_refl _) (by unfold maxLen; omega) rfl)
  have i2 := Lib.hid (Ow.il (lo' := b + 1) o2 (by omega))
  have b2a := b2.alloc (by omega) (.cells #[.int .i64 r2] 2)
  have s2a := Src.al hs2 (.cells #[.int .i64 r2] 2)
  have hz2a : w2.heap.size ≤ (w2.alloc (.cells #[.int .i64 r2] 2)).heap.size := by simp
  clear hr2 hc2 hb1 hs1 o2 hs2 b2
  go_wp2_with fail
  refine (l01Next_any B b 5 _ s2a (by omega)).mono ?_
  rintro e w3 ⟨r3, rfl, hr3, hs3, hc3⟩
  have q3 := hr3.1; have q3' := hr3.2.1 (by omega)
  obtain ⟨k0, rfl⟩ := Int.eq_ofNat_of_zero_le q3
  have i3 := Lib.hid (i2.out.chg hc3 (by omega))
  have b3 := b2a.trans (hc3.below (by omega) (.inl (Nat.le_refl _)))
  have hz3 := hc3.size
  clear hr3 hc3 i2 b2a s2a
  go_wp2_with fail
  go_loopw [4, 5] (fun l k wr => ∃ (q : Nat) (A : Option Addr) (m c : Nat) (xs : List Int), k = .int .i64 (q : Int) ∧ l = .slice A m c ∧ q ≤ 5 ∧ m ≤ 2001 ∧ Hid (xs.length = m) ∧ isPoly xs = true ∧ Hid (Il wr (b + 1) (.slice A m c) xs) ∧ Src wr B b ∧ Below b w wr) (fun _ k _ => (intOf k).toNat)
  case atStart => exact ⟨k0, _, 1, 1, [r2], rfl, rfl, by omega, by omega, Lib.hid rfl, hp2, i3, hs3, b3⟩
  case round =>
    clear i3 hs3 b3 hp2
    obtain ⟨q, A, m, c, xs, rfl, rfl, hq5, hm, Hm, hp, hi, hs, hb⟩ := hrel
    have hzr := hb.size
    have Hp := Lib.hid hp
    clear hp
    by_cases hq : 0 < q
    · have hq' : (0 : Int) < (q : Int) := by omega
      have hqs : (q : Int) - 1 = ((q - 1 : Nat) : Int) := by omega
      go_wp2_with fail
      refine (l01Next_any B b 30 _ hs (by omega)).mono ?_
      rintro e w4 ⟨r4, rfl, hr4, hs4, hc4⟩
      have q4 := hr4.1; have q4' := hr4.2.1 (by omega)
      obtain ⟨j, hj, hj1, hj2⟩ : ∃ j : Nat, 1 + r4 = (j : Int) ∧ 1 ≤ j ∧ j ≤ 30 := ⟨(1 + r4).toNat, by omega, by omega, by omega⟩
      have i4 := Lib.hid (hi.out.chg hc4 (by omega))
      have b4 := hb.trans (hc4.below (by omega) (.inl (Nat.le_refl _)))
      have hz4 := hc4.size
      clear hr4 hc4 hi hs hb
      go_wp2_with fail
      refine (l02Cyclotomic_any j _ hj1 (by omega)).mono ?_
      rintro e w5 ⟨v5, rfl, o5, hb5⟩
      have Hpo := Lib.hid (isPoly_phi j hj1 (by omega))
      obtain ⟨Q, HQ⟩ : ∃ Q, Hid (phi j = Q) := ⟨_, Lib.hid rfl⟩
      rw [HQ.out] at o5 Hpo
      obtain ⟨A5, c5, rfl, _, _⟩ := o5.shape
      have j5 := Lib.hid (Ow.il (lo' := b + 1) o5 (by have := hs4.here; omega))
      obtain ⟨l5, Hl5⟩ : ∃ l, Hid (Q.length = l) := ⟨_, Lib.hid rfl⟩
      have hl5 : l5 ≤ 2001 := by rw [← Hl5.out]; exact (isPoly_true.1 Hpo.out).1
      rw [Hl5.out] at j5 ⊢
      have i5 := Lib.hid (i4.out.later hb5)
      have hs5 := hs4.later hb5
      have b5 := b4.trans (hb5.mono (by omega))
      have hz5 := hb5.size
      have hlo : b + 1 ≤ w4.heap.size := by have := hs4.here; omega
      clear o5 hb5 i4 hs4 b4 HQ
      have hwr : IntKind.i64.wrap ((m : Int) + (l5 : Int)) = (m : Int) + (l5 : Int) := IntWalk.i64_in _ (by omega)
      obtain ⟨R, HR⟩ : ∃ R, Hid ((prodP xs Q).1 = R) := ⟨_, Lib.hid rfl⟩
      have HRp := Lib.hid (show isPoly R = true by rw [← HR.out]; exact prodP_keeps Hp.out Hpo.out)
      by_cases h53 : (m : Int) + (l5 : Int) < 53
      · go_wp2_with fail
        refine (l02Times_any w5.heap.size _ _ xs Q _ i5.out.1 j5.out.1 (Nat.le_refl _) Hp.out Hpo.out).mono ?_
        rintro e w6 ⟨v6, rfl, o6, hb6⟩
        rw [HR.out] at o6
        obtain ⟨A6, c6, rfl, _, _⟩ := o6.shape
        have i6 := Lib.hid (Ow.il (lo' := b + 1) o6 (by omega))
        obtain ⟨l6, Hl6⟩ : ∃ l, Hid (R.length = l) := ⟨_, Lib.hid rfl⟩
        have hl6 : l6 ≤ 2001 := by rw [← Hl6.out]; exact (isPoly_true.1 HRp.out).1
        rw [Hl6.out] at i6 ⊢
        have hs6 := hs5.later hb6
        have b6 := b5.trans (hb6.mono (by omega))
        clear o6 hb6 i5 j5 hs5 b5
        go_wp2
        go_roundw
        case rel => exact ⟨q - 1, _, l6, _, R, by go_num, rfl, by omega, hl6, Hl6, HRp.out, i6, hs6, b6⟩
        case measure => first | (simp [intOf]; done) | (simp [intOf]; omega)
      · go_wp2_with fail
        refine (l01Next_any B b 8 _ hs5 (by omega)).mono ?_
        rintro e w6 ⟨r6, rfl, hr6, hs6, hc6⟩
        have i6 := Lib.hid (i5.out.chg hc6 (by omega))
        have j6 := Lib.hid (j5.out.chg hc6 (by omega))
        have b6 := b5.trans (hc6.below (by omega) (.inl (Nat.le_refl _)))
        have hz6 := hc6.size
        clear hr6 hc6 i5 j5 hs5 b5
        by_cases q0 : r6 = 0
        · have q0b : (r6 == 0) = true := beqT q0
          clear q0
          go_wp2_with fail
          refine (l02Times_any w6.heap.size _ _ xs Q _ i6.out.1 j6.out.1 (Nat.le_refl _) Hp.out Hpo.out).mono ?_
          rintro e w7 ⟨v7, rfl, o7, hb7⟩
          rw [HR.out] at o7
          obtain ⟨A7, c7, rfl, _, _⟩ := o7.shape
          have i7 := Lib.hid (Ow.il (lo' := b + 1) o7 (by omega))
          obtain ⟨l7, Hl7⟩ : ∃ l, Hid (R.length = l) := ⟨_, Lib.hid rfl⟩
          have hl7 : l7 ≤ 2001 := by rw [← Hl7.out]; exact (isPoly_true.1 HRp.out).1
          rw [Hl7.out] at i7 ⊢
          have hs7 := hs6.later hb7
          have b7 := b6.trans (hb7.mono (by omega))
          clear o7 hb7 i6 j6 hs6 b6
          go_wp2
          go_roundw
          case rel => exact ⟨q - 1, _, l7, _, R, by go_num, rfl, by omega, hl7, Hl7, HRp.out, i7, hs7, b7⟩
          case measure => first | (simp [intOf]; done) | (simp [intOf]; omega)
        · have q0b : (r6 == 0) = false := beqF q0
          clear q0
          go_wp2
          go_roundw
          case rel => exact ⟨q - 1, _, m, _, xs, by go_num, rfl, by omega, hm, Hm, Hp.out, i6, hs6, b6⟩
          case measure => first | (simp [intOf]; done) | (simp [intOf]; omega)
    · have hq' : ¬ (0 : Int) < (q : Int) := by omega
      clear hq
      go_wp2_with fail
      refine (l01Next_any B b 12 _ hs (by omega)).mono ?_
      rintro e w4 ⟨r4, rfl, hr4, hs4, hc4⟩
      have i4 := Lib.hid (hi.out.chg hc4 (by omega))
      have b4 := hb.trans (hc4.below (by omega) (.inl (Nat.le_refl _)))
      have hz4 := hc4.size
      have hbb : ∀ w', Below b w w' → Below w.heap.size w w' := fun w' h => by rw [heb]; exact h
      clear hr4 hc4 hi hs hb
      by_cases q0 : r4 = 0
      · have q0b : (r4 == 0) = true := beqT q0
        clear q0
        go_wp2_with fail
        refine (l02Spoil_len B b _ hs4).mono ?_
        rintro e w5 ⟨v5, ys, rfl, o5, hl5, hs5, hc5⟩
        obtain ⟨A5, c5, rfl, _, _⟩ := o5.shape
        have j5 := Lib.hid o5.is
        have b5 := b4.trans (hc5.below (by omega) (.inl (Nat.le_refl _)))
        clear o5 hc5 hs5 b4 i4 hs4
        go_wp2
        go_ret
        exact ⟨_, ys, rfl, j5.out, by first | exact b5 | exact hbb _ b5⟩
      · have q0b : (r4 == 0) = false := beqF q0
        clear q0
        by_cases q1 : r4 = 1
        · have q1b : (r4 == 1) = true := beqT q1
          clear q1
          go_wp2_with fail
          refine (l02Spoil_len B b _ hs4).mono ?_
          rintro e w5 ⟨v5, ys, rfl, o5, hl5, hs5, hc5⟩
          obtain ⟨A5, c5, rfl, _, _⟩ := o5.shape
          have j5 := Lib.hid o5.is
          have i5 := Lib.hid (i4.out.chg hc5 (by omega))
          have b5 := b4.trans (hc5.below (by omega) (.inl (Nat.le_refl _)))
          have hz5 := hc5.size
          obtain ⟨Y, HY⟩ : ∃ Y, Hid (trimL (addK xs 0 ys) = Y) := ⟨_, Lib.hid rfl⟩
          have hco := Lib.hid (fun j => ⟨isPoly_gx Hp.out j, by rw [Int.zero_mul]; decide⟩ : ∀ j, (-1000000000000 ≤ gx xs j ∧ gx xs j ≤ 1000000000000) ∧ -1000000000000 ≤ 0 * gx ys j ∧ 0 * gx ys j ≤ 1000000000000)
          clear o5 hc5 hs5 b4 i4 hs4
          go_wp2_with fail
          refine (l02Plus_gen _ _ _ xs ys 0 _ i5.out.1 j5.out (Nat.le_refl _) (by rw [Hm.out]; omega) hl5 hco.out (.inl rfl)).mono ?_
          rintro e w6 ⟨v6, rfl, o6, hb6⟩
          rw [HY.out] at o6
          obtain ⟨A6, c6, rfl, _, _⟩ := o6.shape
          have j6 := Lib.hid o6.is
          have b6 := b5.trans (hb6.mono (by omega))
          clear o6 hb6 i5 j5 b5
          go_wp2
          go_ret
          exact ⟨_, Y, rfl, j6.out, by first | exact b6 | exact hbb _ b6⟩
        · have q1b : (r4 == 1) = false := beqF q1
          clear q1
          by_cases q2 : r4 = 2
          · have q2b : (r4 == 2) = true := beqT q2
            clear q2
            obtain ⟨Y, HY⟩ : ∃ Y, Hid (trimL (addK xs 1 xs) = Y) := ⟨_, Lib.hid rfl⟩
            go_wp2_with fail
            refine (l02Plus_any _ _ _ xs xs 1 _ i4.out.1 i4.out.1 (Nat.le_refl _) Hp.out Hp.out (.inl rfl)).mono ?_
            rintro e w6 ⟨v6, rfl, o6, hb6⟩
            rw [HY.out] at o6
            obtain ⟨A6, c6, rfl, _, _⟩ := o6.shape
            have j6 := Lib.hid o6.is
            have b6 := b4.trans (hb6.mono (by omega))
            clear o6 hb6 i4 b4
            go_wp2
            go_ret
            exact ⟨_, Y, rfl, j6.out, by first | exact b6 | exact hbb _ b6⟩
          · have q2b : (r4 == 2) = false := beqF q2
            clear q2
            go_wp2
            go_ret
            exact ⟨_, xs, rfl, i4.out.1, by first | exact b4 | exact hbb _ b4⟩
end WF
end Go.Proofs.Ytogkblncdpbhnaa
namespace Go.Proofs.Ytogkblncdpbhnaa
open Go.RowKit
set_option linter.unusedVariables false
namespace WF
open K Pl WA WB WY
/-- A literal row appended. -/
theorem row_snoc {wr w2 : World} {lo n : Nat} {v v' : Value} {us : List Value} {xss : List (List Int)} (ys : List Int) (arr : Array Value) (o : Obj) (harr : arr.toList = ys.map (Value.int .i64)) (hn : arr.size = n) (hn9 : n ≤ 1000)
    (how : OwU wr lo wr.heap.size v us xss) (hlo : lo ≤ wr.heap.size) (hown2 : w2.ownsRow lo 24 1 v' (xss.length + 1) (us ++ [.slice (some ⟨wr.heap.size, 0, none⟩) n n]))
    (hgrow : ((wr.alloc (.cells arr 2)).alloc o).grownBy w2 v.ownBlock) (hat : v'.ownBlock = v.ownBlock ∨ v'.ownBlock = some ((wr.alloc (.cells arr 2)).alloc o).heap.size) :
    OwU w2 lo w2.heap.size v' (us ++ [.slice (some ⟨wr.heap.size, 0, none⟩) n n]) (xss ++ [ys]) := by
  have hu : Ow ((wr.alloc (.cells arr 2)).alloc o) wr.heap.size ((wr.alloc (.cells arr 2)).alloc o).heap.size (.slice (some ⟨wr.heap.size, 0, none⟩) n n) ys := by
    have e : (wr.alloc (.cells arr 2)).ownsRow wr.heap.size 2 1 (.slice (some ⟨wr.heap.size, 0, none⟩) n n) n arr.toList :=
      World.ownsRow_lit (base := wr.heap.size) (e := 2) (size := 1) wr arr n (Nat.le_refl _) (by unfold maxLen; omega) (by omega)
    rw [harr] at e
    exact Ow.of_own (n := n) (e.alloc o)
  exact OwU.snoc how (Nat.le_refl _) hlo (((Below.refl _ _).alloc (Nat.le_refl _) _).alloc (by simp) _) hu hown2 hgrow hat
theorem owu_chg {w w' : World} {b lo : Nat} {v : Value} {us : List Value} {xss : List (List Int)} (h : OwU w lo w.heap.size v us xss) (hc : Chg b (b + 1) w w') (hb : b < lo) : OwU w' lo w'.heap.size v us xss :=
  (h.keep hc (.inr hb)).wide (Nat.le_refl _) hc.size
theorem row_after {w wr w2 : World} {B b n m c : Nat} {A : Option Addr} {v' : Value} {us : List Value} {xss : List (List Int)} (ys : List Int) (arr : Array Value) (o : Obj) (harr : arr.toList = ys.map (Value.int .i64)) (hn : arr.size = n) (hn9 : n ≤ 1000)
    (hm : xss.length = m) (how : OwU wr w.heap.size wr.heap.size (.slice A m c) us xss) (hs : Src wr B b) (hc : Chg b (b + 1) w wr) (hbw : b < w.heap.size)
    (hown2 : w2.ownsRow w.heap.size 24 1 v' (m + 1) (us ++ [.slice (some ⟨wr.heap.size, 0, none⟩) n n]))
    (hgrow : ((wr.alloc (.cells arr 2)).alloc o).grownBy w2 (Value.slice A m c).ownBlock) (hat : v'.ownBlock = (Value.slice A m c).ownBlock ∨ v'.ownBlock = some (wr.heap.size + 1 + 1)) :
    ∃ A' c', v' = .slice A' (m + 1) c' ∧ Hid ((xss ++ [ys]).length = m + 1) ∧ Hid (OwU w2 w.heap.size w2.heap.size (.slice A' (m + 1) c') (us ++ [.slice (some ⟨wr.heap.size, 0, none⟩) n n]) (xss ++ [ys])) ∧ Src w2 B b ∧ Chg b (b + 1) w w2 := by
  have hsz := hc.size
  have hl : (xss ++ [ys]).length = m + 1 := by simp [hm]
  have h1 := row_snoc (v := .slice A m c) ys arr o harr hn hn9 how hsz (by rw [hm]; exact hown2) hgrow (by simpa using hat)
  have hrow : ∀ k, (Value.slice A m c).ownBlock = some k → w.heap.size ≤ k := fun k e => (how.row.lt k e).1
  obtain ⟨A', c', e, _, _⟩ := own_shape h1.row
  rw [hl] at e
  subst e
  exact ⟨A', c', rfl, Lib.hid hl, Lib.hid h1, src_grow (lo := w.heap.size) (Src.al hs (.cells arr 2)) o hgrow hbw hrow, chg_grow (hc.trans (Chg.al wr (.cells arr 2))) o hgrow hrow⟩
set_option maxHeartbeats 3200000 in
theorem l02Pairs_any (B b : Nat) (w : World) (h : Src w B b) :
    Calls Try.prog 41 #[.pointer (some ⟨b, 0, none⟩)] w fun e w' => ∃ v us xss, e = .returned v ∧ OwU w' w.heap.size w'.heap.size v us xss ∧ xss.length ≤ 8 ∧ Dr B b w w' := by
  have hbw := h.here
  have how0 := Lib.hid (OwU.lit (lo := w.heap.size) w (Nat.le_refl _))
  have hs0 := Lib.hid (Src.al h (.cells #[] 24))
  have hc0 := Lib.hid (Chg.al (lo := b) (hi := b + 1) w (.cells #[] 24))
  go_enter Try.func41, Try.ntmps41
  go_wp2_with fail
  refine (l01Next_any B b 4 _ hs0.out (by omega)).mono ?_
  rintro e w1 ⟨r1, rfl, hr1, hs1, hc1⟩
  have b1 := hr1.1; have b1' := hr1.2.1 (by omega)
  obtain ⟨q0, rfl⟩ := Int.eq_ofNat_of_zero_le b1
  have how1 := Lib.hid (owu_chg (b := b) (how0.out.wide (Nat.le_refl _) (by simp)) hc1 hbw)
  have c1 := hc0.out.trans hc1
  clear hr1 hc1 how0 hs0 hc0
  go_wp2_with fail
  go_loopw [3, 4] (fun l k wr => ∃ (q m : Nat) (A : Option Addr) (c : Nat) (us : List Value) (xss : List (List Int)), k = .int .i64 (q : Int) ∧ l = .slice A m c ∧ m + 2 * q ≤ 8 ∧ Hid (xss.length = m) ∧ Hid (OwU wr w.heap.size wr.heap.size (.slice A m c) us xss) ∧ Src wr B b ∧ Chg b (b + 1) w wr) (fun _ k _ => (intOf k).toNat)
  case atStart => exact ⟨q0, 0, _, 0, [], [], rfl, rfl, by omega, Lib.hid rfl, how1, hs1, c1⟩
  case round =>
    clear how1 hs1 c1
    obtain ⟨q, m, A, c, us, xss, rfl, rfl, hmq, hm, how, hs, hc⟩ := hrel
    have hsz := hc.size
    by_cases hq : 0 < q
    · have hq' : (0 : Int) < (q : Int) := by omega
      have hqs : (q : Int) - 1 = ((q - 1 : Nat) : Int) := by omega
      go_wp2_with fail
      refine (l01Next_any B b 6 _ hs (by omega)).mono ?_
      rintro e w4 ⟨r4, rfl, hr4, hs4, hc4⟩
      have b4 := hr4.1; have b4' := hr4.2.1 (by omega)
      have how4 := Lib.hid (owu_chg how.out hc4 hbw)
      have c4 := hc.trans hc4
      clear hr4 hc4 how hs hc
      go_wp2_with fail
      refine (l01Next_any B b 6 _ hs4 (by omega)).mono ?_
      rintro e w5 ⟨r5, rfl, hr5, hs5, hc5⟩
      have b5 := hr5.1; have b5' := hr5.2.1 (by omega)
      have how5 := Lib.hid (owu_chg how4.out hc5 hbw)
      have c5 := c4.trans hc5
      clear hr5 hc5 how4 hs4 c4
      have hmm := mul_bd2 (1 + r4) (1 + r5) (by omega) (by omega) (by omega) (by omega)
      have hw1 : IntKind.i64.wrap ((1 + r4) * (1 + r5)) = (1 + r4) * (1 + r5) := IntWalk.i64_in _ (by omega)
      go_wp2_with fail
      refine (l01Next_any B b 2 _ hs5 (by omega)).mono ?_
      rintro e w6 ⟨r6, rfl, hr6, hs6, hc6⟩
      have b6 := hr6.1; have b6' := hr6.2.1 (by omega)
      have how6 := Lib.hid (owu_chg how5.out hc6 hbw)
      have c6 := c5.trans hc6
      clear hr6 hc6 how5 hs5 c5
      have hz6 := c6.size
      have hrow : w6.ownsRow w.heap.size 24 1 (.slice A m c) m us := by have h := how6.out.row; rw [hm.out] at h; exact h
      obtain ⟨P, hP⟩ : ∃ P, (1 + r4) * (1 + r5) = P := ⟨_, rfl⟩
      rw [hP] at hw1 hmm
      go_wp2_with (at_builtin; refine wp_append_row rfl _ _ rfl w.heap.size _ m us rfl ((hrow.alloc _).alloc _) (w6.heap.size + 1) (some ⟨w6.heap.size, 0, none⟩) 2 2 1 rfl (by simp) (by omega) (by simp; omega) ?_)
      intro v' w7 hown2 hgrow hat
      obtain ⟨A7, c7, rfl, hm7, how7, hs7, ch7⟩ := row_after (n := 2) [P, 1 + r6] #[.int .i64 P, .int .i64 (1 + r6)] _ rfl rfl (by omega) hm.out how6.out hs6 c6 hbw hown2 hgrow hat
      obtain ⟨us7, hus7⟩ : ∃ us7, us7 = us ++ [Value.slice (some ⟨w6.heap.size, 0, none⟩) 2 2] := ⟨_, rfl⟩
      obtain ⟨xss7, hxs7⟩ : ∃ xss7, xss7 = xss ++ [[P, 1 + r6]] := ⟨_, rfl⟩
      rw [← hus7, ← hxs7] at how7
      rw [← hxs7] at hm7
      have hz7 := ch7.size
      obtain ⟨hmc7, hcm7⟩ : m + 1 ≤ c7 ∧ c7 ≤ 9223372036854775807 := by
        obtain ⟨A9, c9, e, h1, h2⟩ := own_shape how7.out.row
        rw [hm7.out] at e h1
        cases e; exact ⟨h1, h2⟩
      clear hus7 hxs7 hown2 hgrow hat hrow how6 hs6 c6 hm hP hw1 hmm
      go_wp2_with fail
      refine (l01Next_any B b 3 _ hs7 (by omega)).mono ?_
      rintro e w8 ⟨r8, rfl, hr8, hs8, hc8⟩
      have b8 := hr8.1; have b8' := hr8.2.1 (by omega)
      have how8 := Lib.hid (owu_chg how7.out hc8 hbw)
      have c8 := ch7.trans hc8
      have hz8 := c8.size
      clear hr8 hc8 how7 hs7 ch7
      by_cases h0 : 0 < r8
      · have hrow : w8.ownsRow w.heap.size 24 1 (.slice A7 (m + 1) c7) (m + 1) us7 := by have h := how8.out.row; rw [hm7.out] at h; exact h
        go_wp2_with (at_builtin; refine wp_append_row rfl _ _ rfl w.heap.size _ (m + 1) us7 rfl ((hrow.alloc _).alloc _) (w8.heap.size + 1) (some ⟨w8.heap.size, 0, none⟩) 2 2 1 rfl (by simp) (by omega) (by simp; omega) ?_)
        intro v' w9 hown2 hgrow hat
        obtain ⟨A9, c9, rfl, hm9, how9, hs9, ch9⟩ := row_after (n := 2) [1 + r4, -1] #[.int .i64 (1 + r4), .int .i64 (-1)] _ rfl rfl (by omega) hm7.out how8.out hs8 c8 hbw hown2 hgrow hat
        clear hown2 hgrow hat hrow how8 hs8 c8 hm7
        go_wp2
        go_roundw
        case rel => exact ⟨q - 1, m + 1 + 1, A9, c9, _, _, by go_num, rfl, by omega, hm9, how9, hs9, ch9⟩
        case measure => first | (simp [intOf]; done) | (simp [intOf]; omega)
      · go_wp2
        go_roundw
        case rel => exact ⟨q - 1, m + 1, A7, c7, _, _, by go_num, rfl, by omega, hm7, how8, hs8, c8⟩
        case measure => first | (simp [intOf]; done) | (simp [intOf]; omega)
    · have hq' : ¬ (0 : Int) < (q : Int) := by omega
      go_wp2
      go_ret
      first
        | exact ⟨_, us, xss, rfl, how.out, by rw [hm.out]; omega, hs, hc⟩
        | exact ⟨_, rfl, us, xss, how.out, by rw [hm.out]; omega, hs, hc⟩
        | exact ⟨_, rfl, ⟨us, xss, how.out, by rw [hm.out]; omega, hs, hc⟩⟩
set_option maxHeartbeats 3200000 in
theorem DrawBinomialProduct_any (B : Nat) (v : Value) (n : Nat) (w : World) (h : IsY w B v n) (hB : B ≤ w.heap.size) :
    Calls Try.prog 16 #[v] w fun e w' => ∃ v' xss, e = .returned v' ∧ IsR w' w'.heap.size v' xss ∧ Below w.heap.size w w' := by
  go_enter Try.func16, Try.ntmps16
  go_wp2_with fail
  refine (l01From_any B v n _ h hB).mono ?_
  rintro e w1 ⟨rfl, hs1, hb1⟩
  have hz1 := hb1.size
  obtain ⟨b, heb⟩ : ∃ b, w.heap.size = b := ⟨_, rfl⟩
  have hbw : b < w1.heap.size := by rw [← heb]; exact hs1.here
  rw [heb] at hs1 hb1 hz1 ⊢
  go_wp2_with fail
  refine (l02Pairs_any B b _ hs1).mono ?_
  rintro e w2 ⟨v2, us, xss, rfl, how2, hl2, hs2, c2⟩
  obtain ⟨m, Hm⟩ : ∃ m, Hid (xss.length = m) := ⟨_, Lib.hid rfl⟩
  obtain ⟨A2, c2', e2, hc21, hc22⟩ := own_shape how2.row
  rw [Hm.out] at e2 hc21 hl2
  subst e2
  have How2 := Lib.hid how2
  have hz2 := c2.size
  clear how2 hs1
  go_wp2_with fail
  refine (l01Next_any B b 20 _ hs2 (by omega)).mono ?_
  rintro e w3 ⟨r3, rfl, hr3, hs3, hc3⟩
  have How3 := Lib.hid (owu_chg How2.out hc3 hbw)
  have c3 := c2.trans hc3
  have hz3 := c3.size
  have hfin : ∀ w', Chg b (b + 1) w1 w' → Below b w w' := fun w' hc => hb1.trans (hc.below hz1 (.inl (Nat.le_refl _)))
  have hbb : ∀ w', Below b w w' → Below w.heap.size w w' := fun w' h => by rw [heb]; exact h
  clear hr3 hc3 How2 c2 hs2
  by_cases q0 : r3 = 0
  · have q0b : (r3 == 0) = true := beqT q0
    clear q0
    go_wp2_with fail
    refine (l01Pick_any B b w3.heap.size 4 [0, 2001, 1500, 1] _ (Src.al hs3 _) (by omega) (by omega) (lit_own hs3.here _ 4 rfl (by omega))).mono ?_
    rintro e w4 ⟨r4, rfl, hr4, hs4, hc4⟩
    have How4 := Lib.hid (owu_chg ((How3.out.alloc (.cells #[.int .i64 0, .int .i64 2001, .int .i64 1500, .int .i64 1] 2)).wide (Nat.le_refl _) (by simp)) hc4 hbw)
    have c4 := (c3.trans (Chg.al w3 (.cells #[.int .i64 0, .int .i64 2001, .int .i64 1500, .int .i64 1] 2))).trans hc4
    clear hr4 hc4 How3 c3 hs3
    go_wp2_with fail
    refine (l01Pick_any B b w4.heap.size 4 [1, 2, 21, -21] _ (Src.al hs4 _) (by omega) (by omega) (lit_own hs4.here _ 4 rfl (by omega))).mono ?_
    rintro e w5 ⟨r5, rfl, hr5, hs5, hc5⟩
    have How5 := Lib.hid (owu_chg ((How4.out.alloc (.cells #[.int .i64 1, .int .i64 2, .int .i64 21, .int .i64 (-21)] 2)).wide (Nat.le_refl _) (by simp)) hc5 hbw)
    have c5 := (c4.trans (Chg.al w4 (.cells #[.int .i64 1, .int .i64 2, .int .i64 21, .int .i64 (-21)] 2))).trans hc5
    have hz5 := c5.size
    clear hr5 hc5 How4 c4 hs4
    have hrow : w5.ownsRow w1.heap.size 24 1 (.slice A2 m c2') m us := by have h := How5.out.row; rw [Hm.out] at h; exact h
    go_wp2_with (at_builtin; refine wp_append_row rfl _ _ rfl w1.heap.size _ m us rfl ((hrow.alloc _).alloc _) (w5.heap.size + 1) (some ⟨w5.heap.size, 0, none⟩) 2 2 1 rfl (by simp) (by omega) (by simp; omega) ?_)
    intro v' w9 hown2 hgrow hat
    obtain ⟨A9, c9, rfl, hm9, how9, hs9, ch9⟩ := row_after (n := 2) [r4, r5] #[.int .i64 r4, .int .i64 r5] _ rfl rfl (by omega) Hm.out How5.out hs5 c5 hbw hown2 hgrow hat
    have hf9 := hfin _ ch9
    clear hown2 hgrow hat hrow How5 hs5 c5
    go_wp2
    go_ret
    exact ⟨_, _, rfl, ⟨_, how9.out.is⟩, by first | exact hf9 | exact hbb _ hf9⟩
  · have q0b : (r3 == 0) = false := beqF q0
    clear q0
    by_cases q1 : r3 = 1
    · have q1b : (r3 == 1) = true := beqT q1
      clear q1
      have hrow : w3.ownsRow w1.heap.size 24 1 (.slice A2 m c2') m us := by have h := How3.out.row; rw [Hm.out] at h; exact h
      go_wp2_with (at_builtin; refine wp_append_row rfl _ _ rfl w1.heap.size _ m us rfl ((hrow.alloc _).alloc _) (w3.heap.size + 1) (some ⟨w3.heap.size, 0, none⟩) 1 1 1 rfl (by simp) (by omega) (by simp; omega) ?_)
      intro v' w9 hown2 hgrow hat
      obtain ⟨A9, c9, rfl, hm9, how9, hs9, ch9⟩ := row_after (n := 1) [1] #[.int .i64 1] _ rfl rfl (by omega) Hm.out How3.out hs3 c3 hbw hown2 hgrow hat
      have hf9 := hfin _ ch9
      clear hown2 hgrow hat hrow How3 hs3 c3
      go_wp2
      go_ret
      exact ⟨_, _, rfl, ⟨_, how9.out.is⟩, by first | exact hf9 | exact hbb _ hf9⟩
    · have q1b : (r3 == 1) = false := beqF q1
      clear q1
      by_cases q2 : r3 = 2
      · have q2b : (r3 == 2) = true := beqT q2
        clear q2
        go_wp2_with fail
        refine (l01Pick_any B b w3.heap.size 3 [2, 7, 11] _ (Src.al hs3 _) (by omega) (by omega) (lit_own hs3.here _ 3 rfl (by omega))).mono ?_
        rintro e w4 ⟨r4, rfl, hr4, hs4, hc4⟩
        have How4 := Lib.hid (owu_chg ((How3.out.alloc (.cells #[.int .i64 2, .int .i64 7, .int .i64 11] 2)).wide (Nat.le_refl _) (by simp)) hc4 hbw)
        have c4 := (c3.trans (Chg.al w3 (.cells #[.int .i64 2, .int .i64 7, .int .i64 11] 2))).trans hc4
        have hz4 := c4.size
        clear hr4 hc4 How3 c3 hs3
        have hrow : w4.ownsRow w1.heap.size 24 1 (.slice A2 m c2') m us := by have h := How4.out.row; rw [Hm.out] at h; exact h
        go_wp2_with (at_builtin; refine wp_append_row rfl _ _ rfl w1.heap.size _ m us rfl ((hrow.alloc _).alloc _) (w4.heap.size + 1) (some ⟨w4.heap.size, 0, none⟩) 2 2 1 rfl (by simp) (by omega) (by simp; omega) ?_)
        intro v' w9 hown2 hgrow hat
        obtain ⟨A9, c9, rfl, hm9, how9, hs9, ch9⟩ := row_after (n := 2) [r4, -1] #[.int .i64 r4, .int .i64 (-1)] _ rfl rfl (by omega) Hm.out How4.out hs4 c4 hbw hown2 hgrow hat
        have hf9 := hfin _ ch9
        clear hown2 hgrow hat hrow How4 hs4 c4
        go_wp2
        go_ret
        exact ⟨_, _, rfl, ⟨_, how9.out.is⟩, by first | exact hf9 | exact hbb _ hf9⟩
      · have q2b : (r3 == 2) = false := beqF q2
        clear q2
        have hf9 := hfin _ c3
        go_wp2
        go_ret
        exact ⟨_, xss, rfl, ⟨_, How3.out.is⟩, by first | exact hf9 | exact hbb _ hf9⟩
end WF
end Go.Proofs.Ytogkblncdpbhnaa
