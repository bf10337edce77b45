/-
  WALKS, DRAWS: small branches.
-/
import Derived.Test.YtcnoaclijhcckaaWlkF3
import Derived.Test.YtcnoaclijhcckaaWlkC19
import Derived.Test.YtcnoaclijhcckaaKitT
import Derived.Test.YtcnoaclijhcckaaPlT
import Derived.Deep.CutRange
namespace Go.Proofs.Ytcnoaclijhcckaa
open Go.RowKit
set_option linter.unusedVariables false
namespace WF
open K Pl WA WC
theorem OwU.dr {w w' : World} {b lo hi : Nat} {v : Value} {us : List Value} {xss : List (List Int)} (h : OwU w lo hi v us xss) (hc : Chg b (b + 1) w w') (hb : b < lo) : OwU w' lo hi v us xss := h.keep hc (.inr hb)
theorem OwU.up {w w' : World} {lo hi : Nat} {v : Value} {us : List Value} {xss : List (List Int)} (h : OwU w lo w.heap.size v us xss) (hw : OwU w' lo w.heap.size v us xss) (hs : w.heap.size ≤ w'.heap.size) : OwU w' lo w'.heap.size v us xss := hw.wide (Nat.le_refl _) hs
/-- A variable's cell: what it holds; it may be written. -/
def Rz (w : World) (b : Nat) (u : Value) : Prop := w.cell? ⟨b, 0, none⟩ = some u ∧ w.frozen? ⟨b, 0, none⟩ = false
section
variable {w w' : World} {b lo hi : Nat} {u : Value}
theorem Rz.here (h : Rz w b u) : b < w.heap.size := World.block_lt_of_cell? w ⟨b, 0, none⟩ h.1
theorem Rz.chg (h : Rz w b u) (hc : Chg lo hi w w') (hd : b < lo ∨ hi ≤ b) : Rz w' b u :=
  ⟨hc.cell h.1 hd, (World.frozen?_of_block (w := w) (hc.block b h.here (by omega))).trans h.2⟩
theorem Rz.later (h : Rz w b u) (hb : Below w.heap.size w w') : Rz w' b u := h.chg (Chg.of_below hb) (.inr (Nat.zero_le _))
theorem Rz.al (h : Rz w b u) (o : Obj) : Rz (w.alloc o) b u := h.later ((Below.refl _ _).alloc (Nat.le_refl _) o)
theorem Rz.grown {row : Option Nat} (h : Rz w b u) (hg : w.grownBy w' row) (hr : ∀ k, row = some k → b ≠ k) : Rz w' b u := by
  obtain ⟨l, m, hc, hd⟩ := chg_of_grown (lo := b) (hi := b + 1) hg (fun k e => by have := hr k e; omega)
  exact h.chg hc (by omega)
theorem Rz.new (w : World) (u : Value) (t : TypeId) : Rz (w.alloc (.cells #[u] t)) w.heap.size u := ⟨by simp [go_sem], by simp [go_sem]⟩
theorem Rz.set (h : Rz w b u) (v : Value) : Rz (w.setCell ⟨b, 0, none⟩ v) b v := ⟨World.cell?_setCell_same _ _ _ h.1, by rw [← h.2]; simp [go_sem]⟩
end
theorem gcd_one_of {t own : Int} (h1 : 2 ≤ own) (h : own ∣ t - 1) : gcdI t own = 1 := by
  have h2 := gcdI_dvd_left t own
  have h3 := gcdI_dvd_right t own
  have h4 : gcdI t own ∣ t - (t - 1) := Int.dvd_sub h2 (Int.dvd_trans h3 h)
  rw [show t - (t - 1) = 1 by omega] at h4
  have h5 := Int.le_of_dvd (by omega) h4
  have h6 := gcdI_pos t own (by omega)
  omega
/-- The first number from c on that leaves 1. -/
def topC (c own : Int) : Int := c + (1 - c) % own
theorem topC_bd {c own : Int} (h : 2 ≤ own) : c ≤ topC c own ∧ topC c own < c + own := by
  unfold topC
  have h1 := Int.emod_nonneg (1 - c) (show own ≠ 0 by omega)
  have h2 := Int.emod_lt_of_pos (1 - c) (show 0 < own by omega)
  omega
theorem topC_gcd {c own : Int} (h : 2 ≤ own) : gcdI (topC c own) own = 1 := by
  refine gcd_one_of h ?_
  unfold topC
  have h1 := Int.emod_add_mul_ediv (1 - c) own
  refine ⟨-((1 - c) / own), ?_⟩
  rw [Int.mul_neg]
  omega
theorem bopB_cases (added : Bool) (xss : List (List Int)) : ((bopB added xss).2 = 0 ∧ isBr (bopB added xss).1 = true) ∨ (¬ (bopB added xss).2 = 0 ∧ (bopB added xss).1 = []) := by
  unfold bopB
  split
  · split
    · rename_i h; simp only [Bool.and_eq_true] at h; exact .inl ⟨rfl, h.1⟩
    · exact .inr ⟨by decide, rfl⟩
  · exact .inr ⟨by decide, rfl⟩
set_option maxHeartbeats 3200000 in
theorem l03Small_any (B b : Nat) (most : Int) (w : World) (h : Src w B b) (hm : 1 ≤ most ∧ most ≤ 64) :
    Calls Try.prog 65 #[.pointer (some ⟨b, 0, none⟩), .int .i64 most, .int .i64 400] w fun e w' => ∃ v xs, e = .returned (.agg #[v]) ∧ Ow w' w.heap.size w'.heap.size v xs ∧ (isBr xs = true ∨ xs = [2] ∨ xs = [3]) ∧ Dr B b w w' := by
  have hbw := h.here
  have hs0 := Lib.hid (Src.al (Src.al h (.cells #[.slice none 0 0] 26)) (.cells #[] 24))
  have hc0 := Lib.hid ((Chg.al (lo := b) (hi := b + 1) w (.cells #[.slice none 0 0] 26)).trans (Chg.al _ (.cells #[] 24)))
  have hr0 := Lib.hid (show Rz ((w.alloc (.cells #[.slice none 0 0] 26)).alloc (.cells #[] 24)) w.heap.size (.slice none 0 0) from (Rz.new w _ _).al _)
  have hu0 := Lib.hid (show OwU ((w.alloc (.cells #[.slice none 0 0] 26)).alloc (.cells #[] 24)) (w.heap.size + 1) (w.heap.size + 2) (.slice (some ⟨w.heap.size + 1, 0, none⟩) 0 0) [] [] by simpa using OwU.lit (lo := w.heap.size + 1) (w.alloc (.cells #[.slice none 0 0] 26)) (by simp))
  go_enter Try.func65, Try.ntmps65
  go_wp2_with fail
  refine (l01Next_any B b 3 _ hs0.out (by omega)).mono ?_
  rintro e w1 ⟨r1, rfl, hr1, hs1, hc1⟩
  have b1 := hr1.1; have b1' := hr1.2.1 (by omega)
  obtain ⟨q0, rfl⟩ := Int.eq_ofNat_of_zero_le b1
  have c1 := hc0.out.trans hc1
  have u1 := Lib.hid (OwU.dr hu0.out hc1 (by omega))
  have r1 := Lib.hid (hr0.out.chg hc1 (.inr (by omega)))
  have hz1 : w.heap.size + 2 ≤ w1.heap.size := by have := hc1.size; simp at this; omega
  clear hr1 hc1 hu0 hc0 hs0 hr0
  have hsz1 := c1.size
  go_wp2_with fail
  go_loopw [7, 8, 9] (fun p n k wr => ∃ (q m : Nat) (N : Int) (us : List Value) (xss : List (List Int)) (A : Option Addr) (c : Nat), k = .int .i64 (q : Int) ∧ q ≤ 3 ∧ p = .slice A m c ∧ m + q ≤ 3 ∧ n = .int .i64 N ∧ (1 ≤ N ∧ N ≤ 64) ∧ Hid (xss.length = m) ∧ Hid (OwU wr (w.heap.size + 1) wr.heap.size (.slice A m c) us xss) ∧ Hid (Rz wr w.heap.size (.slice none 0 0)) ∧ Src wr B b ∧ Chg b (b + 1) w wr) (fun _ _ k _ => (intOf k).toNat)
  case atStart => exact ⟨1 + q0, 0, 1, [], [], _, 0, by simp, by omega, rfl, by omega, rfl, by omega, Lib.hid rfl, Lib.hid (u1.out.wide (Nat.le_refl _) hz1), r1, hs1, c1⟩
  case round =>
    clear u1 hs1 c1 r1
    obtain ⟨q, m, N, us, xss, A, c, rfl, hq3, rfl, hmq, rfl, hN, hlen, hu, hr, hs, hc⟩ := hrel
    have hsz := hc.size
    obtain ⟨hmc, hcm⟩ : m ≤ c ∧ c ≤ 9223372036854775807 := by
      obtain ⟨A9, c9, e, h1, h2⟩ := own_shape hu.out.row
      rw [hlen.out] at e h1
      cases e; exact ⟨h1, h2⟩
    by_cases hq : 0 < q
    · have hq' : (0 : Int) < (q : Int) := by omega
      have hqs : (q : Int) - 1 = ((q - 1 : Nat) : Int) := by omega
      go_wp2_with fail
      refine (l01Next_any B b 4 _ hs (by omega)).mono ?_
      rintro e w2 ⟨r2, rfl, hr2, hs2, hc2⟩
      have b2 := hr2.1; have b2' := hr2.2.1 (by omega)
      have c2 := hc.trans hc2
      have u2 := Lib.hid (OwU.dr hu.out hc2 (by omega))
      have v2 := Lib.hid (hr.out.chg hc2 (.inr (by omega)))
      have z2 := hc2.size
      obtain ⟨O, rfl⟩ : ∃ O, r2 = O - 2 := ⟨r2 + 2, by omega⟩
      have hO2 : 2 ≤ O ∧ O ≤ 5 := by omega
      have hO : 2 + (O - 2) = O := by omega
      have hNO : 2 ≤ N * O ∧ N * O ≤ 320 := ⟨by have := Int.mul_le_mul hN.1 hO2.1 (by omega) (by omega); omega, by have := Int.mul_le_mul hN.2 hO2.2 (by omega) (by omega); omega⟩
      clear hr2 hc2 hu hs hr hc b2 b2'
      by_cases hbig : most < N * O
      · go_wp2
        go_roundw
        case rel => exact ⟨q - 1, m, N, us, xss, A, c, by go_num, by omega, rfl, by omega, rfl, hN, hlen, Lib.hid (u2.out.wide (Nat.le_refl _) z2), v2, hs2, c2⟩
        case measure => first | (simp [intOf]; done) | (simp [intOf]; omega)
      · go_wp2_with fail
        refine (l01Pick_any B b w2.heap.size 3 [4, 8, 12] _ (Src.al hs2 _) (by omega) (by omega) (lit_own hs2.here _ 3 rfl (by omega))).mono ?_
        rintro e w3 ⟨r3, rfl, hr3, hs3, hc3⟩
        have b3 : 4 ≤ r3 ∧ r3 ≤ 12 := by simp at hr3; omega
        have c3 := (c2.trans (Chg.al _ _)).trans hc3
        have u3 := Lib.hid (OwU.dr (u2.out.alloc _) hc3 (by omega))
        have v3 := Lib.hid ((v2.out.al _).chg hc3 (.inr (by omega)))
        have z3 := hc3.size
        simp at z3
        clear hr3 hc3 u2 v2 hs2 c2
        go_wp2_with fail
        refine (l01Next_any B b r3 _ hs3 (by omega)).mono ?_
        rintro e w4 ⟨r4, rfl, hr4, hs4, hc4⟩
        have b4 := hr4.1; have b4' := hr4.2.1 (by omega)
        have c4 := c3.trans hc4
        have u4 := Lib.hid (OwU.dr u3.out hc4 (by omega))
        have v4 := Lib.hid (v3.out.chg hc4 (.inr (by omega)))
        have z4 := hc4.size
        obtain ⟨C, rfl⟩ : ∃ C, r4 = C - 1 := ⟨r4 + 1, by omega⟩
        have hC2 : 1 ≤ C ∧ C ≤ 12 := by omega
        have hC : 1 + (C - 1) = C := by omega
        clear hr4 hc4 u3 v3 hs3 c3 b4 b4'
        have hT := topC_bd (c := C) hO2.1
        have HT := Lib.hid (topC_gcd (c := C) hO2.1)
        go_wp2_with fail
        go_loop [11] (fun x => ∃ y : Int, x = .int .i64 y ∧ C ≤ y ∧ y ≤ topC C O) (fun x => (topC C O - intOf x).toNat)
        case atStart => exact ⟨C, rfl, by omega, hT.1⟩
        case round =>
          obtain ⟨y, rfl, hy1, hy2⟩ := hrel
          go_wp2_with fail
          refine (l01Gcd_any y O _ (by omega) (by omega) (by omega) (by omega)).mono ?_
          rintro e w' ⟨rfl, rfl⟩
          by_cases hg : 1 < gcdI y O
          · have hne : y < topC C O := by
              rcases Int.lt_or_eq_of_le hy2 with h | e
              · exact h
              · rw [e, HT.out] at hg; omega
            go_wp2
            go_round
            case rel => exact ⟨y + 1, by go_num, by omega, by omega⟩
            case measure => first | (simp [intOf]; done) | (simp [intOf]; omega)
          · have hy17 : 1 ≤ y ∧ y ≤ 16 := by omega
            clear hT HT hy1 hy2
            go_upto_if 44 with fail
            go_cut [11] from 18 to 62 (fun x wx => ∃ y : Int, x = .int .i64 y ∧ 1 ≤ y ∧ y ≤ 30 ∧ wx = w4)
            case first =>
             as_aux_lemma =>
              by_cases hm0 : m = 0
              · have hm0' : ((m : Int) == 0) = true := by simp [hm0]
                clear hm0
                obtain ⟨C2, rfl⟩ : ∃ C2, y = C2 - O := ⟨y + O, by omega⟩
                have hCO : C2 - O + O = C2 := by omega
                have hT := topC_bd (c := C2) hO2.1
                have HT := Lib.hid (topC_gcd (c := C2) hO2.1)
                go_wp2_with fail
                rw [hm0']
                go_loop [11] (fun x => ∃ y : Int, x = .int .i64 y ∧ C2 ≤ y ∧ y ≤ topC C2 O) (fun x => (topC C2 O - intOf x).toNat)
                case atStart => exact ⟨C2, rfl, by omega, hT.1⟩
                case round =>
                  obtain ⟨y, rfl, hy1, hy2⟩ := hrel
                  go_wp2_with fail
                  refine (l01Gcd_any y O _ (by omega) (by omega) (by omega) (by omega)).mono ?_
                  rintro e w' ⟨rfl, rfl⟩
                  by_cases hg : 1 < gcdI y O
                  · have hne : y < topC C2 O := by
                      rcases Int.lt_or_eq_of_le hy2 with h | e
                      · exact h
                      · rw [e, HT.out] at hg; omega
                    go_wp2
                    go_round
                    case rel => exact ⟨y + 1, by go_num, by omega, by omega⟩
                    case measure => first | (simp [intOf]; done) | (simp [intOf]; omega)
                  · have hy30 : 1 ≤ y ∧ y ≤ 30 := by omega
                    go_wp2
                    go_meet
                    exact ⟨y, rfl, hy30.1, hy30.2, rfl⟩
              · have hm0' : ((m : Int) == 0) = false := by rw [beq_eq_false_iff_ne]; omega
                go_wp2
                go_meet
                exact ⟨y, rfl, hy17.1, by omega, rfl⟩
            case rest =>
             as_aux_lemma =>
              obtain ⟨z, rfl, hz1, hz2, rfl⟩ := hcut
              have u5 := Lib.hid (u4.out.wide (Nat.le_refl _) (show wr.heap.size ≤ wc.heap.size by omega))
              have hrow : wc.ownsRow (w.heap.size + 1) 24 1 (.slice A m c) m us := by have h := u5.out.row; rw [hlen.out] at h; exact h
              have hszc := c4.size
              have hN2 : 1 ≤ N * O ∧ N * O ≤ 64 := by omega
              have hwNO : IntKind.i64.wrap (N * O) = N * O := IntWalk.i64_in _ (by omega)
              clear u4 hO hC hg hz1
              go_wp2_with (at_builtin; refine wp_append_row rfl _ _ rfl (w.heap.size + 1) _ m us rfl ((hrow.alloc _).alloc _) (wc.heap.size + 1) (some ⟨wc.heap.size, 0, none⟩) 2 2 1 rfl (by simp) (by omega) (by simp; omega) ?_)
              intro v' w5 hown5 hgrow hat
              have how5 := Lib.hid (OwU.snoc (ys := [z, O]) u5.out (Nat.le_refl _) (by omega) (((Below.refl _ _).alloc (Nat.le_refl _) _).alloc (by simp) _) (ow_lit2 wc _ _ _) (by rw [hlen.out]; exact hown5) hgrow (by simp only [World.size_alloc]; exact hat))
              have hc5 : Chg b (b + 1) w w5 := chg_grow (c4.trans (Chg.al _ _)) _ hgrow (fun k e => by have := (hrow.lt k e).1; omega)
              have hs5 := src_grow (lo := w.heap.size) (Src.al hs4 _) _ hgrow (by omega) (fun k e => by have := (hrow.lt k e).1; omega)
              have hv5 := Lib.hid (((v4.out.al _).al _).grown hgrow (fun k e => by have := (hrow.lt k e).1; omega))
              obtain ⟨A', c', rfl, hnc', hcm'⟩ := own_shape hown5
              clear hown5 hgrow hat hrow u5 v4 hs4 c4
              go_wp2_with fail
              go_roundw
              case rel => exact ⟨q - 1, m + 1, N * O, _, _, _, _, by go_num, by omega, rfl, by omega, rfl, hN2, Lib.hid (by simp [hlen.out]), how5, hv5, hs5, hc5⟩
              case measure => first | (simp [intOf]; done) | (simp [intOf]; omega)
    · have hq' : ¬ (0 : Int) < (q : Int) := by omega
      have hsw := hs.here
      go_wp2_with fail
      refine (sBranchOfNewton_any wr.heap.size _ xss _ (show IsR wr wr.heap.size _ xss from ⟨us, hu.out.isB⟩) (Nat.le_refl _)).mono ?_
      rintro e w2 ⟨v2, rfl, ow2, hb2⟩
      have hw2 := hb2.size
      have hs2 := hs.later hb2
      have hc2 := hc.trans (show Chg b (b + 1) wr w2 from (Chg.of_below hb2).wide (.inr rfl) (Nat.zero_le _))
      have hv2 := Lib.hid (hr.out.later hb2)
      have hcase := bopB_cases true xss
      obtain ⟨ys, Hys⟩ : ∃ ys, Hid ((bopB true xss).1 = ys) := ⟨_, Lib.hid rfl⟩
      obtain ⟨cd, Hcd⟩ : ∃ cd, Hid ((bopB true xss).2 = cd) := ⟨_, Lib.hid rfl⟩
      rw [Hys.out, Hcd.out] at hcase
      rw [Hys.out] at ow2
      rw [Hcd.out]
      obtain ⟨A2, c2, rfl, hnc2, hcm2⟩ := ow2.shape
      obtain ⟨n2, Hn2⟩ : ∃ n2, Hid (ys.length = n2) := ⟨_, Lib.hid rfl⟩
      have Ho2 := Lib.hid (ow2.wide (show w.heap.size + 1 ≤ wr.heap.size from hr.out.here) (Nat.le_refl _))
      rw [Hn2.out] at hnc2 Ho2 ⊢
      clear ow2 hu hr hs hc hb2
      have hs3 := Lib.hid (Src.al hs2 (.cells #[.slice A2 n2 c2] 26))
      have hc3 := Lib.hid (hc2.trans (Chg.al (lo := b) (hi := b + 1) w2 (.cells #[.slice A2 n2 c2] 26)))
      have hv3 := Lib.hid (hv2.out.al (.cells #[.slice A2 n2 c2] 26))
      have hx3 := Lib.hid (show (w2.alloc (.cells #[.slice A2 n2 c2] 26)).cell? ⟨w2.heap.size, 0, none⟩ = some (.slice A2 n2 c2) by simp [go_sem])
      have Ho3 := Lib.hid ((Ho2.out.alloc (.cells #[.slice A2 n2 c2] 26)).wide (Nat.le_refl _) (show w2.heap.size ≤ (w2.alloc (.cells #[.slice A2 n2 c2] 26)).heap.size by simp))
      have hl3 := Lib.hid (show w2.heap.size < (w2.alloc (.cells #[.slice A2 n2 c2] 26)).heap.size by simp)
      go_upto_region 17 with fail
      obtain ⟨w3, hw3⟩ : ∃ w3, w3 = w2.alloc (.cells #[.slice A2 n2 c2] 26) := ⟨_, rfl⟩
      rw [← hw3] at hs3 hc3 hv3 hx3 Ho3 hl3 ⊢
      clear hw3 hs2 hc2 hv2 Ho2
      go_cut [86] from 64 to 92 (fun t wx => ∃ tb : Bool, t = .bool tb ∧ Hid (tb = false → isBr ys = true) ∧ Src wx B b ∧ Chg b (b + 1) w wx ∧ Hid (Rz wx w.heap.size (.slice none 0 0)) ∧ Hid (wx.cell? ⟨w2.heap.size, 0, none⟩ = some (.slice A2 n2 c2)) ∧ Hid (Ow wx (w.heap.size + 1) wx.heap.size (.slice A2 n2 c2) ys))
      case first =>
       as_aux_lemma =>
        rcases hcase with ⟨h0, hbr⟩ | ⟨h0, hys⟩
        · have hn1 : 1 ≤ n2 := by have := (isBr_true.1 hbr).1; rw [Hn2.out] at this; omega
          have Hbr := Lib.hid hbr
          have hisy := Ho3.out.isB
          obtain ⟨A9, n9, c9, e9, hnc9, hcm9, hrd9⟩ := hisy
          cases e9
          obtain ⟨ad, rfl, hab, hcl⟩ := hrd9.pos (by omega)
          have hlast := hcl (n2 - 1) (by omega)
          have hn2i : (n2 : Int) - 1 = ((n2 - 1 : Nat) : Int) := by omega
          have hi1 : 0 ≤ (n2 : Int) - 1 ∧ (n2 : Int) - 1 < (n2 : Int) := by omega
          have hi2 : n2 - 1 < n2 := by omega
          have hxc := hx3.out
          have hcd0 : (cd != 0) = false := by simp [h0]
          obtain ⟨X, hX⟩ : ∃ X, gx ys (n2 - 1) = X := ⟨_, rfl⟩
          rw [hX] at hlast
          clear hcl hrd9 hbr hX h0
          by_cases hbig : 400 < X
          · go_wp2
            go_meet
            exact ⟨true, rfl, Lib.hid (fun h => by cases h), hs3.out, hc3.out, hv3, hx3, Ho3⟩
          · go_wp2_with fail
            refine (l01Next_any B b 12 _ hs3.out (by omega)).mono ?_
            rintro e w4 ⟨r4, rfl, hr4, hs4, hc4⟩
            go_wp2
            go_meet
            refine ⟨_, rfl, Lib.hid (fun _ => Hbr.out), hs4, hc3.out.trans hc4, Lib.hid (hv3.out.chg hc4 (.inr (by omega))), Lib.hid (hc4.cell hx3.out (.inr (by omega))), Lib.hid ((Ho3.out.keep hc4 (.inr (by omega))).wide (Nat.le_refl _) hc4.size)⟩
        · have hcd0 : (cd != 0) = true := by simpa using h0
          clear h0
          go_wp2
          go_meet
          exact ⟨true, rfl, Lib.hid (fun h => by cases h), hs3.out, hc3.out, hv3, hx3, Ho3⟩
      case rest =>
       as_aux_lemma =>
        obtain ⟨tb, rfl, Hbr, hs4, hc4, hv4, hx4, Ho4⟩ := hcut
        clear hs3 hc3 hv3 hx3 Ho3 hcase
        obtain ⟨hv4', hf4'⟩ := hv4.out
        have hx4' := hx4.out
        have hlw := hv4.out.here
        cases tb
        · have hc5 : Chg b (b + 1) w (wc.setCell ⟨w.heap.size, 0, none⟩ (.slice A2 n2 c2)) := ⟨hc4.os, hc4.tape, hc4.output, by simpa using hc4.size, fun x hx hn => (Below.heap_setCell wc ⟨w.heap.size, 0, none⟩ _ x (by show x ≠ w.heap.size; omega)).trans (hc4.block x hx hn)⟩
          have hs5 := hs4.keep (Chg.setC (lo := w.heap.size) (hi := w.heap.size + 1) (p := ⟨w.heap.size, 0, none⟩) ⟨Nat.le_refl _, Nat.lt_succ_self _⟩ (.slice A2 n2 c2)) (.inl (by omega)) (.inl (by have := hs4.lt; omega))
          have hr5 := (hv4.out.set (.slice A2 n2 c2)).1
          have ho5 := Lib.hid ((Ho4.out.keep (Chg.setC (lo := w.heap.size) (hi := w.heap.size + 1) (p := ⟨w.heap.size, 0, none⟩) ⟨Nat.le_refl _, Nat.lt_succ_self _⟩ (.slice A2 n2 c2)) (.inr (Nat.le_refl _))).wide (lo' := w.heap.size) (by omega) (show wc.heap.size ≤ (wc.setCell ⟨w.heap.size, 0, none⟩ (.slice A2 n2 c2)).heap.size by simp))
          have Hbr' := Hbr.out rfl
          clear Ho4 hs4 hc4 hx4 hv4 Hbr
          go_wp2_with fail
          refine bodyPost_ret (v := .agg #[.slice A2 n2 c2]) (by simp [results, Try.results65, go_sem, hr5]) rfl ⟨_, _, rfl, ho5.out, .inl Hbr', hs5, hc5⟩
        · clear Hbr hx4 Ho4
          go_wp2_with fail
          refine (l01Pick_any B b wc.heap.size 3 [1, 2, 3] _ (Src.al hs4 _) (by omega) (by omega) (lit_own hs4.here _ 3 rfl (by omega))).mono ?_
          rintro e w5 ⟨r5, rfl, hr5, hs5, hc5⟩
          have c5 := (hc4.trans (Chg.al _ _)).trans hc5
          have v5 := Lib.hid ((hv4.out.al _).chg hc5 (.inr (by omega)))
          have hr5' : r5 = 1 ∨ r5 = 2 ∨ r5 = 3 := by simpa using hr5
          have hz5 := c5.size
          have hlw5 := v5.out.here
          obtain ⟨v5', f5'⟩ := v5.out
          obtain ⟨w6, hw6⟩ : ∃ w6, w6 = w5.setCell ⟨w.heap.size, 0, none⟩ (.slice (some ⟨w5.heap.size, 0, none⟩) 1 1) := ⟨_, rfl⟩
          have hs6 : w6.heap.size = w5.heap.size := by rw [hw6]; simp
          have v7 := (show Rz w6 w.heap.size (.slice (some ⟨w5.heap.size, 0, none⟩) 1 1) by rw [hw6]; exact v5.out.set _).al (.cells #[.int .i64 r5] 2)
          have c6 : Chg b (b + 1) w w6 := by rw [hw6]; exact ⟨c5.os, c5.tape, c5.output, by simpa using c5.size, fun x hx hn => (Below.heap_setCell w5 ⟨w.heap.size, 0, none⟩ _ x (by show x ≠ w.heap.size; omega)).trans (c5.block x hx hn)⟩
          have s6 : Src w6 B b := by rw [hw6]; exact hs5.keep (Chg.setC (lo := w.heap.size) (hi := w.heap.size + 1) (p := ⟨w.heap.size, 0, none⟩) ⟨Nat.le_refl _, Nat.lt_succ_self _⟩ _) (.inl (by omega)) (.inl (by have := hs5.lt; omega))
          have s7 := Lib.hid (Src.al s6 (.cells #[.int .i64 r5] 2))
          have c7 := Lib.hid (c6.trans (Chg.al (lo := b) (hi := b + 1) w6 (.cells #[.int .i64 r5] 2)))
          have o7 := Lib.hid (show Ow (w6.alloc (.cells #[.int .i64 r5] 2)) w.heap.size (w6.alloc (.cells #[.int .i64 r5] 2)).heap.size (.slice (some ⟨w5.heap.size, 0, none⟩) 1 1) [r5] from Ow.of_own (n := 1) (by rw [← hs6]; exact World.ownsRow_lit (base := w.heap.size) (e := 2) (size := 1) w6 #[.int .i64 r5] 1 (by omega) (by unfold maxLen; omega) rfl))
          clear hr5 hc5 hs4 hc4 hv4 hv4' hf4' hx4' v5 hs5 c5 c6 s6
          rw [hw6] at v7 s7 c7 o7
          go_wp2_with fail
          refine bodyPost_ret (v := .agg #[.slice (some ⟨w5.heap.size, 0, none⟩) 1 1]) (by simp [results, Try.results65, go_sem, v7.1]) rfl ⟨_, _, rfl, o7.out, ?_, s7.out, c7.out⟩
          rcases hr5' with rfl | rfl | rfl
          · exact .inl rfl
          · exact .inr (.inl rfl)
          · exact .inr (.inr rfl)
end WF
end Go.Proofs.Ytcnoaclijhcckaa
