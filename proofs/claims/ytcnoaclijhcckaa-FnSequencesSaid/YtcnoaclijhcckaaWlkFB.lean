/-
  WALKS, DRAWS: small branches.
  WALKS, DRAWS: branches.
  WALKS, DRAWS: branches of chapter 4.
  WALKS, DRAWS: sequences.
-/
import Derived.Test.YtcnoaclijhcckaaWlkFA
import Derived.Test.YtcnoaclijhcckaaWlkCB
import Derived.Test.YtcnoaclijhcckaaKitT
import Derived.Test.YtcnoaclijhcckaaPlT
import Derived.Deep.CutRange
import Derived.Test.YtcnoaclijhcckaaWlkCA
import Derived.Test.YtcnoaclijhcckaaWlkD6
namespace Go.Proofs.Ytcnoaclijhcckaa
open Go.RowKit
set_option linter.unusedVariables false
namespace WF
open K Pl WA WC
theorem OwU.dr {w w' : World} {b lo hi : Nat} {v : Value} {us : List Value} {xss : List (List Int)} (h : OwU w lo hi v us xss) (hc : Chg b (b + 1) w w') (hb : b < lo) : OwU w' lo hi v us xss := h.keep hc (.inr hb)
theorem OwU.up {w w' : World} {lo hi : Nat} {v : Value} {us : List Value} {xss : List (List Int)} (h : OwU w lo w.heap.size v us xss) (hw : OwU w' lo w.heap.size v us xss) (hs : w.heap.size ≤ w'.heap.size) : OwU w' lo w'.heap.size v us xss := hw.wide (Nat.le_refl _) hs
/-- A variable's cell: what it holds; it may be written. -/
def Rz (w : World) (b : Nat) (u : Value) : Prop := w.cell? ⟨b, 0, none⟩ = some u ∧ w.frozen? ⟨b, 0, none⟩ = false
section
variable {w w' : World} {b lo hi : Nat} {u : Value}
theorem Rz.here (h : Rz w b u) : b < w.heap.size := World.block_lt_of_cell? w ⟨b, 0, none⟩ h.1
theorem Rz.chg (h : Rz w b u) (hc : Chg lo hi w w') (hd : b < lo ∨ hi ≤ b) : Rz w' b u :=
  ⟨hc.cell h.1 hd, (World.frozen?_of_block (w := w) (hc.block b h.here (by omega))).trans h.2⟩
theorem Rz.later (h : Rz w b u) (hb : Below w.heap.size w w') : Rz w' b u := h.chg (Chg.of_below hb) (.inr (Nat.zero_le _))
theorem Rz.al (h : Rz w b u) (o : Obj) : Rz (w.alloc o) b u := h.later ((Below.refl _ _).alloc (Nat.le_refl _) o)
theorem Rz.grown {row : Option Nat} (h : Rz w b u) (hg : w.grownBy w' row) (hr : ∀ k, row = some k → b ≠ k) : Rz w' b u := by
  obtain ⟨l, m, hc, hd⟩ := chg_of_grown (lo := b) (hi := b + 1) hg (fun k e => by have := hr k e; omega)
  exact h.chg hc (by omega)
theorem Rz.new (w : World) (u : Value) (t : TypeId) : Rz (w.alloc (.cells #[u] t)) w.heap.size u := ⟨by simp [go_sem], by simp [go_sem]⟩
theorem Rz.set (h : Rz w b u) (v : Value) : Rz (w.setCell ⟨b, 0, none⟩ v) b v := ⟨World.cell?_setCell_same _ _ _ h.1, by rw [← h.2]; simp [go_sem]⟩
end
theorem gcd_one_of {t own : Int} (h1 : 2 ≤ own) (h : own ∣ t - 1) : gcdI t own = 1 := by
  have h2 := gcdI_dvd_left t own
  have h3 := gcdI_dvd_right t own
  have h4 : gcdI t own ∣ t - (t - 1) := Int.dvd_sub h2 (Int.dvd_trans h3 h)
  rw [show t - (t - 1) = 1 by omega] at h4
  have h5 := Int.le_of_dvd (by omega) h4
  have h6 := gcdI_pos t own (by omega)
  omega
/-- The first number from c on that leaves 1. -/
def topC (c own : Int) : Int := c + (1 - c) % own
theorem topC_bd {c own : Int} (h : 2 ≤ own) : c ≤ topC c own ∧ topC c own < c + own := by
  unfold topC
  have h1 := Int.emod_nonneg (1 - c) (show own ≠ 0 by omega)
  have h2 := Int.emod_lt_of_pos (1 - c) (show 0 < own by omega)
  omega
theorem topC_gcd {c own : Int} (h : 2 ≤ own) : gcdI (topC c own) own = 1 := by
  refine gcd_one_of h ?_
  unfold topC
  have h1 := Int.emod_add_mul_ediv (1 - c) own
  refine ⟨-((1 - c) / own), ?_⟩
  rw [Int.mul_neg]
  omega
theorem bopB_cases (added : Bool) (xss : List (List Int)) : ((bopB added xss).2 = 0 ∧ isBr (bopB added xss).1 = true) ∨ (¬ (bopB added xss).2 = 0 ∧ (bopB added xss).1 = []) := by
  unfold bopB
  split
  · split
    · rename_i h; simp only [Bool.and_eq_true] at h; exact .inl ⟨rfl, h.1⟩
    · exact .inr ⟨by decide, rfl⟩
  · exact .inr ⟨by decide, rfl⟩
set_option maxHeartbeats 3200000 in
theorem l03Small_any (B b : Nat) (most : Int) (w : World) (h : Src w B b) (hm : 1 ≤ most ∧ most ≤ 64) :
    Calls Try.prog 65 #[.pointer (some ⟨b, 0, none⟩), .int .i64 most, .int .i64 400] w fun e w' => ∃ v xs, e = .returned (.agg #[v]) ∧ Ow w' w.heap.size w'.heap.size v xs ∧ (isBr xs = true ∨ xs = [2] ∨ xs = [3]) ∧ Dr B b w w' := by
  have hbw := h.here
  have hs0 := Lib.hid (Src.al (Src.al h (.cells #[.slice none 0 0] 26)) (.cells #[] 24))
  have hc0 := Lib.hid ((Chg.al (lo := b) (hi := b + 1) w (.cells #[.slice none 0 0] 26)).trans (Chg.al _ (.cells #[] 24)))
  have hr0 := Lib.hid (show Rz ((w.alloc (.cells #[.slice none 0 0] 26)).alloc (.cells #[] 24)) w.heap.size (.slice none 0 0) from (Rz.new w _ _).al _)
  have hu0 := Lib.hid (show OwU ((w.alloc (.cells #[.slice none 0 0] 26)).alloc (.cells #[] 24)) (w.heap.size + 1) (w.heap.size + 2) (.slice (some ⟨w.heap.size + 1, 0, none⟩) 0 0) [] [] by simpa using OwU.lit (lo := w.heap.size + 1) (w.alloc (.cells #[.slice none 0 0] 26)) (by simp))
  go_enter Try.func65, Try.ntmps65
  go_wp2_with fail
  refine (l01Next_any B b 3 _ hs0.out (by omega)).mono ?_
  rintro e w1 ⟨r1, rfl, hr1, hs1, hc1⟩
  have b1 := hr1.1; have b1' := hr1.2.1 (by omega)
  obtain ⟨q0, rfl⟩ := Int.eq_ofNat_of_zero_le b1
  have c1 := hc0.out.trans hc1
  have u1 := Lib.hid (OwU.dr hu0.out hc1 (by omega))
  have r1 := Lib.hid (hr0.out.chg hc1 (.inr (by omega)))
  have hz1 : w.heap.size + 2 ≤ w1.heap.size := by have := hc1.size; simp at this; omega
  clear hr1 hc1 hu0 hc0 hs0 hr0
  have hsz1 := c1.size
  go_wp2_with fail
  go_loopw [7, 8, 9] (fun p n k wr => ∃ (q m : Nat) (N : Int) (us : List Value) (xss : List (List Int)) (A : Option Addr) (c : Nat), k = .int .i64 (q : Int) ∧ q ≤ 3 ∧ p = .slice A m c ∧ m + q ≤ 3 ∧ n = .int .i64 N ∧ (1 ≤ N ∧ N ≤ 64) ∧ Hid (xss.length = m) ∧ Hid (OwU wr (w.heap.size + 1) wr.heap.size (.slice A m c) us xss) ∧ Hid (Rz wr w.heap.size (.slice none 0 0)) ∧ Src wr B b ∧ Chg b (b + 1) w wr) (fun _ _ k _ => (intOf k).toNat)
  case atStart => exact ⟨1 + q0, 0, 1, [], [], _, 0, by simp, by omega, rfl, by omega, rfl, by omega, Lib.hid rfl, Lib.hid (u1.out.wide (Nat.le_refl _) hz1), r1, hs1, c1⟩
  case round =>
    clear u1 hs1 c1 r1
    obtain ⟨q, m, N, us, xss, A, c, rfl, hq3, rfl, hmq, rfl, hN, hlen, hu, hr, hs, hc⟩ := hrel
    have hsz := hc.size
    obtain ⟨hmc, hcm⟩ : m ≤ c ∧ c ≤ 9223372036854775807 := by
      obtain ⟨A9, c9, e, h1, h2⟩ := own_shape hu.out.row
      rw [hlen.out] at e h1
      cases e; exact ⟨h1, h2⟩
    by_cases hq : 0 < q
    · have hq' : (0 : Int) < (q : Int) := by omega
      have hqs : (q : Int) - 1 = ((q - 1 : Nat) : Int) := by omega
      go_wp2_with fail
      refine (l01Next_any B b 4 _ hs (by omega)).mono ?_
      rintro e w2 ⟨r2, rfl, hr2, hs2, hc2⟩
      have b2 := hr2.1; have b2' := hr2.2.1 (by omega)
      have c2 := hc.trans hc2
      have u2 := Lib.hid (OwU.dr hu.out hc2 (by omega))
      have v2 := Lib.hid (hr.out.chg hc2 (.inr (by omega)))
      have z2 := hc2.size
      obtain ⟨O, rfl⟩ : ∃ O, r2 = O - 2 := ⟨r2 + 2, by omega⟩
      have hO2 : 2 ≤ O ∧ O ≤ 5 := by omega
      have hO : 2 + (O - 2) = O := by omega
      have hNO : 2 ≤ N * O ∧ N * O ≤ 320 := ⟨by have := Int.mul_le_mul hN.1 hO2.1 (by omega) (by omega); omega, by have := Int.mul_le_mul hN.2 hO2.2 (by omega) (by omega); omega⟩
      clear hr2 hc2 hu hs hr hc b2 b2'
      by_cases hbig : most < N * O
      · go_wp2
        go_roundw
        case rel => exact ⟨q - 1, m, N, us, xss, A, c, by go_num, by omega, rfl, by omega, rfl, hN, hlen, Lib.hid (u2.out.wide (Nat.le_refl _) z2), v2, hs2, c2⟩
        case measure => first | (simp [intOf]; done) | (simp [intOf]; omega)
      · go_wp2_with fail
        refine (l01Pick_any B b w2.heap.size 3 [4, 8, 12] _ (Src.al hs2 _) (by omega) (by omega) (lit_own hs2.here _ 3 rfl (by omega))).mono ?_
        rintro e w3 ⟨r3, rfl, hr3, hs3, hc3⟩
        have b3 : 4 ≤ r3 ∧ r3 ≤ 12 := by simp at hr3; omega
        have c3 := (c2.trans (Chg.al _ _)).trans hc3
        have u3 := Lib.hid (OwU.dr (u2.out.alloc _) hc3 (by omega))
        have v3 := Lib.hid ((v2.out.al _).chg hc3 (.inr (by omega)))
        have z3 := hc3.size
        simp at z3
        clear hr3 hc3 u2 v2 hs2 c2
        go_wp2_with fail
        refine (l01Next_any B b r3 _ hs3 (by omega)).mono ?_
        rintro e w4 ⟨r4, rfl, hr4, hs4, hc4⟩
        have b4 := hr4.1; have b4' := hr4.2.1 (by omega)
        have c4 := c3.trans hc4
        have u4 := Lib.hid (OwU.dr u3.out hc4 (by omega))
        have v4 := Lib.hid (v3.out.chg hc4 (.inr (by omega)))
        have z4 := hc4.size
        obtain ⟨C, rfl⟩ : ∃ C, r4 = C - 1 := ⟨r4 + 1, by omega⟩
        have hC2 : 1 ≤ C ∧ C ≤ 12 := by omega
        have hC : 1 + (C - 1) = C := by omega
        clear hr4 hc4 u3 v3 hs3 c3 b4 b4'
        have hT := topC_bd (c := C) hO2.1
        have HT := Lib.hid (topC_gcd (c := C) hO2.1)
        go_wp2_with fail
        go_loop [11] (fun x => ∃ y : Int, x = .int .i64 y ∧ C ≤ y ∧ y ≤ topC C O) (fun x => (topC C O - intOf x).toNat)
        case atStart => exact ⟨C, rfl, by omega, hT.1⟩
        case round =>
          obtain ⟨y, rfl, hy1, hy2⟩ := hrel
          go_wp2_with fail
          refine (l01Gcd_any y O _ (by omega) (by omega) (by omega) (by omega)).mono ?_
          rintro e w' ⟨rfl, rfl⟩
          by_cases hg : 1 < gcdI y O
          · have hne : y < topC C O := by
              rcases Int.lt_or_eq_of_le hy2 with h | e
              · exact h
              · rw [e, HT.out] at hg; omega
            go_wp2
            go_round
            case rel => exact ⟨y + 1, by go_num, by omega, by omega⟩
            case measure => first | (simp [intOf]; done) | (simp [intOf]; omega)
          · have hy17 : 1 ≤ y ∧ y ≤ 16 := by omega
            clear hT HT hy1 hy2
            go_upto_if 44 with fail
            go_cut [11] from 18 to 62 (fun x wx => ∃ y : Int, x = .int .i64 y ∧ 1 ≤ y ∧ y ≤ 30 ∧ wx = w4)
            case first =>
             as_aux_lemma =>
              by_cases hm0 : m = 0
              · have hm0' : ((m : Int) == 0) = true := by simp [hm0]
                clear hm0
                obtain ⟨C2, rfl⟩ : ∃ C2, y = C2 - O := ⟨y + O, by omega⟩
                have hCO : C2 - O + O = C2 := by omega
                have hT := topC_bd (c := C2) hO2.1
                have HT := Lib.hid (topC_gcd (c := C2) hO2.1)
                go_wp2_with fail
                rw [hm0']
                go_loop [11] (fun x => ∃ y : Int, x = .int .i64 y ∧ C2 ≤ y ∧ y ≤ topC C2 O) (fun x => (topC C2 O - intOf x).toNat)
                case atStart => exact ⟨C2, rfl, by omega, hT.1⟩
                case round =>
                  obtain ⟨y, rfl, hy1, hy2⟩ := hrel
                  go_wp2_with fail
                  refine (l01Gcd_any y O _ (by omega) (by omega) (by omega) (by omega)).mono ?_
                  rintro e w' ⟨rfl, rfl⟩
                  by_cases hg : 1 < gcdI y O
                  · have hne : y < topC C2 O := by
                      rcases Int.lt_or_eq_of_le hy2 with h | e
                      · exact h
                      · rw [e, HT.out] at hg; omega
                    go_wp2
                    go_round
                    case rel => exact ⟨y + 1, by go_num, by omega, by omega⟩
                    case measure => first | (simp [intOf]; done) | (simp [intOf]; omega)
                  · have hy30 : 1 ≤ y ∧ y ≤ 30 := by omega
                    go_wp2
                    go_meet
                    exact ⟨y, rfl, hy30.1, hy30.2, rfl⟩
              · have hm0' : ((m : Int) == 0) = false := by rw [beq_eq_false_iff_ne]; omega
                go_wp2
                go_meet
                exact ⟨y, rfl, hy17.1, by omega, rfl⟩
            case rest =>
             as_aux_lemma =>
              obtain ⟨z, rfl, hz1, hz2, rfl⟩ := hcut
              have u5 := Lib.hid (u4.out.wide (Nat.le_refl _) (show wr.heap.size ≤ wc.heap.size by omega))
              have hrow : wc.ownsRow (w.heap.size + 1) 24 1 (.slice A m c) m us := by have h := u5.out.row; rw [hlen.out] at h; exact h
              have hszc := c4.size
              have hN2 : 1 ≤ N * O ∧ N * O ≤ 64 := by omega
              have hwNO : IntKind.i64.wrap (N * O) = N * O := IntWalk.i64_in _ (by omega)
              clear u4 hO hC hg hz1
              go_wp2_with (at_builtin; refine wp_append_row rfl _ _ rfl (w.heap.size + 1) _ m us rfl ((hrow.alloc _).alloc _) (wc.heap.size + 1) (some ⟨wc.heap.size, 0, none⟩) 2 2 1 rfl (by simp) (by omega) (by simp; omega) ?_)
              intro v' w5 hown5 hgrow hat
              have how5 := Lib.hid (OwU.snoc (ys := [z, O]) u5.out (Nat.le_refl _) (by omega) (((Below.refl _ _).alloc (Nat.le_refl _) _).alloc (by simp) _) (ow_lit2 wc _ _ _) (by rw [hlen.out]; exact hown5) hgrow (by simp only [World.size_alloc]; exact hat))
              have hc5 : Chg b (b + 1) w w5 := chg_grow (c4.trans (Chg.al _ _)) _ hgrow (fun k e => by have := (hrow.lt k e).1; omega)
              have hs5 := src_grow (lo := w.heap.size) (Src.al hs4 _) _ hgrow (by omega) (fun k e => by have := (hrow.lt k e).1; omega)
              have hv5 := Lib.hid (((v4.out.al _).al _).grown hgrow (fun k e => by have := (hrow.lt k e).1; omega))
              obtain ⟨A', c', rfl, hnc', hcm'⟩ := own_shape hown5
              clear hown5 hgrow hat hrow u5 v4 hs4 c4
              go_wp2_with fail
              go_roundw
              case rel => exact ⟨q - 1, m + 1, N * O, _, _, _, _, by go_num, by omega, rfl, by omega, rfl, hN2, Lib.hid (by simp [hlen.out]), how5, hv5, hs5, hc5⟩
              case measure => first | (simp [intOf]; done) | (simp [intOf]; omega)
    · have hq' : ¬ (0 : Int) < (q : Int) := by omega
      have hsw := hs.here
      go_wp2_with fail
      refine (sBranchOfNewton_any wr.heap.size _ xss _ (show IsR wr wr.heap.size _ xss from ⟨us, hu.out.isB⟩) (Nat.le_refl _)).mono ?_
      rintro e w2 ⟨v2, rfl, ow2, hb2⟩
      have hw2 := hb2.size
      have hs2 := hs.later hb2
      have hc2 := hc.trans (show Chg b (b + 1) wr w2 from (Chg.of_below hb2).wide (.inr rfl) (Nat.zero_le _))
      have hv2 := Lib.hid (hr.out.later hb2)
      have hcase := bopB_cases true xss
      obtain ⟨ys, Hys⟩ : ∃ ys, Hid ((bopB true xss).1 = ys) := ⟨_, Lib.hid rfl⟩
      obtain ⟨cd, Hcd⟩ : ∃ cd, Hid ((bopB true xss).2 = cd) := ⟨_, Lib.hid rfl⟩
      rw [Hys.out, Hcd.out] at hcase
      rw [Hys.out] at ow2
      rw [Hcd.out]
      obtain ⟨A2, c2, rfl, hnc2, hcm2⟩ := ow2.shape
      obtain ⟨n2, Hn2⟩ : ∃ n2, Hid (ys.length = n2) := ⟨_, Lib.hid rfl⟩
      have Ho2 := Lib.hid (ow2.wide (show w.heap.size + 1 ≤ wr.heap.size from hr.out.here) (Nat.le_refl _))
      rw [Hn2.out] at hnc2 Ho2 ⊢
      clear ow2 hu hr hs hc hb2
      have hs3 := Lib.hid (Src.al hs2 (.cells #[.slice A2 n2 c2] 26))
      have hc3 := Lib.hid (hc2.trans (Chg.al (lo := b) (hi := b + 1) w2 (.cells #[.slice A2 n2 c2] 26)))
      have hv3 := Lib.hid (hv2.out.al (.cells #[.slice A2 n2 c2] 26))
      have hx3 := Lib.hid (show (w2.alloc (.cells #[.slice A2 n2 c2] 26)).cell? ⟨w2.heap.size, 0, none⟩ = some (.slice A2 n2 c2) by simp [go_sem])
      have Ho3 := Lib.hid ((Ho2.out.alloc (.cells #[.slice A2 n2 c2] 26)).wide (Nat.le_refl _) (show w2.heap.size ≤ (w2.alloc (.cells #[.slice A2 n2 c2] 26)).heap.size by simp))
      have hl3 := Lib.hid (show w2.heap.size < (w2.alloc (.cells #[.slice A2 n2 c2] 26)).heap.size by simp)
      go_upto_region 17 with fail
      obtain ⟨w3, hw3⟩ : ∃ w3, w3 = w2.alloc (.cells #[.slice A2 n2 c2] 26) := ⟨_, rfl⟩
      rw [← hw3] at hs3 hc3 hv3 hx3 Ho3 hl3 ⊢
      clear hw3 hs2 hc2 hv2 Ho2
      go_cut [86] from 64 to 92 (fun t wx => ∃ tb : Bool, t = .bool tb ∧ Hid (tb = false → isBr ys = true) ∧ Src wx B b ∧ Chg b (b + 1) w wx ∧ Hid (Rz wx w.heap.size (.slice none 0 0)) ∧ Hid (wx.cell? ⟨w2.heap.size, 0, none⟩ = some (.slice A2 n2 c2)) ∧ Hid (Ow wx (w.heap.size + 1) wx.heap.size (.slice A2 n2 c2) ys))
      case first =>
       as_aux_lemma =>
        rcases hcase with ⟨h0, hbr⟩ | ⟨h0, hys⟩
        · have hn1 : 1 ≤ n2 := by have := (isBr_true.1 hbr).1; rw [Hn2.out] at this; omega
          have Hbr := Lib.hid hbr
          have hisy := Ho3.out.isB
          obtain ⟨A9, n9, c9, e9, hnc9, hcm9, hrd9⟩ := hisy
          cases e9
          obtain ⟨ad, rfl, hab, hcl⟩ := hrd9.pos (by omega)
          have hlast := hcl (n2 - 1) (by omega)
          have hn2i : (n2 : Int) - 1 = ((n2 - 1 : Nat) : Int) := by omega
          have hi1 : 0 ≤ (n2 : Int) - 1 ∧ (n2 : Int) - 1 < (n2 : Int) := by omega
          have hi2 : n2 - 1 < n2 := by omega
          have hxc := hx3.out
          have hcd0 : (cd != 0) = false := by simp [h0]
          obtain ⟨X, hX⟩ : ∃ X, gx ys (n2 - 1) = X := ⟨_, rfl⟩
          rw [hX] at hlast
          clear hcl hrd9 hbr hX h0
          by_cases hbig : 400 < X
          · go_wp2
            go_meet
            exact ⟨true, rfl, Lib.hid (fun h => by cases h), hs3.out, hc3.out, hv3, hx3, Ho3⟩
          · go_wp2_with fail
            refine (l01Next_any B b 12 _ hs3.out (by omega)).mono ?_
            rintro e w4 ⟨r4, rfl, hr4, hs4, hc4⟩
            go_wp2
            go_meet
            refine ⟨_, rfl, Lib.hid (fun _ => Hbr.out), hs4, hc3.out.trans hc4, Lib.hid (hv3.out.chg hc4 (.inr (by omega))), Lib.hid (hc4.cell hx3.out (.inr (by omega))), Lib.hid ((Ho3.out.keep hc4 (.inr (by omega))).wide (Nat.le_refl _) hc4.size)⟩
        · have hcd0 : (cd != 0) = true := by simpa using h0
          clear h0
          go_wp2
          go_meet
          exact ⟨true, rfl, Lib.hid (fun h => by cases h), hs3.out, hc3.out, hv3, hx3, Ho3⟩
      case rest =>
       as_aux_lemma =>
        obtain ⟨tb, rfl, Hbr, hs4, hc4, hv4, hx4, Ho4⟩ := hcut
        clear hs3 hc3 hv3 hx3 Ho3 hcase
        obtain ⟨hv4', hf4'⟩ := hv4.out
        have hx4' := hx4.out
        have hlw := hv4.out.here
        cases tb
        · have hc5 : Chg b (b + 1) w (wc.setCell ⟨w.heap.size, 0, none⟩ (.slice A2 n2 c2)) := ⟨hc4.os, hc4.tape, hc4.output, by simpa using hc4.size, fun x hx hn => (Below.heap_setCell wc ⟨w.heap.size, 0, none⟩ _ x (by show x ≠ w.heap.size; omega)).trans (hc4.block x hx hn)⟩
          have hs5 := hs4.keep (Chg.setC (lo := w.heap.size) (hi := w.heap.size + 1) (p := ⟨w.heap.size, 0, none⟩) ⟨Nat.le_refl _, Nat.lt_succ_self _⟩ (.slice A2 n2 c2)) (.inl (by omega)) (.inl (by have := hs4.lt; omega))
          have hr5 := (hv4.out.set (.slice A2 n2 c2)).1
          have ho5 := Lib.hid ((Ho4.out.keep (Chg.setC (lo := w.heap.size) (hi := w.heap.size + 1) (p := ⟨w.heap.size, 0, none⟩) ⟨Nat.le_refl _, Nat.lt_succ_self _⟩ (.slice A2 n2 c2)) (.inr (Nat.le_refl _))).wide (lo' := w.heap.size) (by omega) (show wc.heap.size ≤ (wc.setCell ⟨w.heap.size, 0, none⟩ (.slice A2 n2 c2)).heap.size by simp))
          have Hbr' := Hbr.out rfl
          clear Ho4 hs4 hc4 hx4 hv4 Hbr
          go_wp2_with fail
          refine bodyPost_ret (v := .agg #[.slice A2 n2 c2]) (by simp [results, Try.results65, go_sem, hr5]) rfl ⟨_, _, rfl, ho5.out, .inl Hbr', hs5, hc5⟩
        · clear Hbr hx4 Ho4
          go_wp2_with fail
          refine (l01Pick_any B b wc.heap.size 3 [1, 2, 3] _ (Src.al hs4 _) (by omega) (by omega) (lit_own hs4.here _ 3 rfl (by omega))).mono ?_
          rintro e w5 ⟨r5, rfl, hr5, hs5, hc5⟩
          have c5 := (hc4.trans (Chg.al _ _)).trans hc5
          have v5 := Lib.hid ((hv4.out.al _).chg hc5 (.inr (by omega)))
          have hr5' : r5 = 1 ∨ r5 = 2 ∨ r5 = 3 := by simpa using hr5
          have hz5 := c5.size
          have hlw5 := v5.out.here
          obtain ⟨v5', f5'⟩ := v5.out
          obtain ⟨w6, hw6⟩ : ∃ w6, w6 = w5.setCell ⟨w.heap.size, 0, none⟩ (.slice (some ⟨w5.heap.size, 0, none⟩) 1 1) := ⟨_, rfl⟩
          have hs6 : w6.heap.size = w5.heap.size := by rw [hw6]; simp
          have v7 := (show Rz w6 w.heap.size (.slice (some ⟨w5.heap.size, 0, none⟩) 1 1) by rw [hw6]; exact v5.out.set _).al (.cells #[.int .i64 r5] 2)
          have c6 : Chg b (b + 1) w w6 := by rw [hw6]; exact ⟨c5.os, c5.tape, c5.output, by simpa using c5.size, fun x hx hn => (Below.heap_setCell w5 ⟨w.heap.size, 0, none⟩ _ x (by show x ≠ w.heap.size; omega)).trans (c5.block x hx hn)⟩
          have s6 : Src w6 B b := by rw [hw6]; exact hs5.keep (Chg.setC (lo := w.heap.size) (hi := w.heap.size + 1) (p := ⟨w.heap.size, 0, none⟩) ⟨Nat.le_refl _, Nat.lt_succ_self _⟩ _) (.inl (by omega)) (.inl (by have := hs5.lt; omega))
          have s7 := Lib.hid (Src.al s6 (.cells #[.int .i64 r5] 2))
          have c7 := Lib.hid (c6.trans (Chg.al (lo := b) (hi := b + 1) w6 (.cells #[.int .i64 r5] 2)))
          have o7 := Lib.hid (show Ow (w6.alloc (.cells #[.int .i64 r5] 2)) w.heap.size (w6.alloc (.cells #[.int .i64 r5] 2)).heap.size (.slice (some ⟨w5.heap.size, 0, none⟩) 1 1) [r5] from Ow.of_own (n := 1) (by rw [← hs6]; exact World.ownsRow_lit (base := w.heap.size) (e := 2) (size := 1) w6 #[.int .i64 r5] 1 (by omega) (by unfold maxLen; omega) rfl))
          clear hr5 hc5 hs4 hc4 hv4 hv4' hf4' hx4' v5 hs5 c5 c6 s6
          rw [hw6] at v7 s7 c7 o7
          go_wp2_with fail
          refine bodyPost_ret (v := .agg #[.slice (some ⟨w5.heap.size, 0, none⟩) 1 1]) (by simp [results, Try.results65, go_sem, v7.1]) rfl ⟨_, _, rfl, o7.out, ?_, s7.out, c7.out⟩
          rcases hr5' with rfl | rfl | rfl
          · exact .inl rfl
          · exact .inr (.inl rfl)
          · exact .inr (.inr rfl)
end WF
end Go.Proofs.Ytcnoaclijhcckaa
namespace Go.Proofs.Ytcnoaclijhcckaa
open Go.RowKit
set_option linter.unusedVariables false
namespace WF
open K Pl WA WC
/-- The list without its head. -/
theorem tail_is {w : World} {B n c : Nat} {ad : Addr} {xs : List Int} (h : Is w B (.slice (some ad) n c) xs) (h1 : 1 ≤ n) (hc : n ≤ c) (hm : c ≤ maxLen) : Is w B (.slice (some ⟨ad.block, ad.off + 1, none⟩) (n - 1) (c - 1)) (xs.drop 1) := by
  have he : ad.add 1 = ⟨ad.block, ad.off + 1, none⟩ := by simp [Addr.add]
  rw [← he]
  obtain ⟨A, n', c', e, _, _, hrd⟩ := h
  cases e
  have hl := hrd.len
  obtain ⟨ad', e, hab, hcs⟩ := hrd.pos (by omega)
  cases e
  refine ⟨_, _, _, rfl, by omega, by omega, ⟨by simp; omega, fun _ => ⟨_, rfl, by rw [block_of_add]; exact hab, fun j hj => ?_⟩⟩⟩
  have := hcs (1 + j) (by omega)
  rw [gx_drop, ← this]
  by_cases hj0 : j = 0
  · subst hj0; simp [Addr.add]
  · simp [Addr.add, hj0, Nat.add_assoc]
theorem Chg.of_drew (w : World) (lo hi : Nat) : Chg lo hi w w.drew := ⟨rfl, rfl, rfl, Nat.le_refl _, fun _ _ _ => rfl⟩
section
variable {w W : World} {B b p q : Nat} {u1 u2 : Value}
theorem s4_al (h : Src W B b ∧ Chg b (b + 1) w W ∧ W.cell? ⟨p, 0, none⟩ = some u1 ∧ W.cell? ⟨q, 0, none⟩ = some u2) (o : Obj) : Src (W.alloc o) B b ∧ Chg b (b + 1) w (W.alloc o) ∧ (W.alloc o).cell? ⟨p, 0, none⟩ = some u1 ∧ (W.alloc o).cell? ⟨q, 0, none⟩ = some u2 :=
  ⟨Src.al h.1 o, h.2.1.trans (Chg.al _ _), cell_alloc h.2.2.1 o, cell_alloc h.2.2.2 o⟩
theorem s4_set (h : Src W B b ∧ Chg b (b + 1) w W ∧ W.cell? ⟨p, 0, none⟩ = some u1 ∧ W.cell? ⟨q, 0, none⟩ = some u2) (r : Nat) (v : Value) (h1 : b < r) (h2 : w.heap.size ≤ r) (h3 : p ≠ r) (h4 : q ≠ r) :
    Src (W.setCell ⟨r, 0, none⟩ v) B b ∧ Chg b (b + 1) w (W.setCell ⟨r, 0, none⟩ v) ∧ (W.setCell ⟨r, 0, none⟩ v).cell? ⟨p, 0, none⟩ = some u1 ∧ (W.setCell ⟨r, 0, none⟩ v).cell? ⟨q, 0, none⟩ = some u2 :=
  ⟨h.1.keep (Chg.setC (lo := r) (hi := r + 1) (p := ⟨r, 0, none⟩) ⟨Nat.le_refl _, Nat.lt_succ_self _⟩ _) (.inl h1) (.inl (by have := h.1.lt; omega)),
   ⟨h.2.1.os, h.2.1.tape, h.2.1.output, by simpa using h.2.1.size, fun x hx hn => (Below.heap_setCell W ⟨r, 0, none⟩ _ x (by show x ≠ r; omega)).trans (h.2.1.block x hx hn)⟩,
   cell_far (q := ⟨p, 0, none⟩) h.2.2.1 h3, cell_far (q := ⟨q, 0, none⟩) h.2.2.2 h4⟩
end
theorem br_pair {t k : Int} (ht : t = 2 ∨ t = 3) (hk : 1 ≤ k ∧ k ≤ 9) : isBr [t, t * k + 1] = true := by
  have h1 : gcdI t (t * k + 1) = 1 := by
    rw [gcdI_comm]
    exact gcd_one_of (by omega) ⟨k, by omega⟩
  refine isBr_true.2 ⟨by simp, ?_, ?_, ?_⟩
  · show 1 ≤ t ∧ t ≤ 64; omega
  · intro i h1' h2
    simp at h2
    obtain rfl : i = 1 := by omega
    have e0 : gx [t, t * k + 1] 0 = t := rfl
    have e1 : gx [t, t * k + 1] 1 = t * k + 1 := rfl
    have d1 : dg [t, t * k + 1] 1 = t := dg_one _ (by rw [e0]; omega)
    refine okT_true.2 ⟨?_, ?_, ?_⟩
    · rw [e0, e1]; rcases ht with rfl | rfl <;> omega
    · rw [e1]; rcases ht with rfl | rfl <;> omega
    · rw [dg_succ, d1, e1, h1]; omega
  · have e0 : gx [t, t * k + 1] 0 = t := rfl
    have e1 : gx [t, t * k + 1] 1 = t * k + 1 := rfl
    have d1 : dg [t, t * k + 1] 1 = t := dg_one _ (by rw [e0]; omega)
    show dg [t, t * k + 1] 2 = 1
    rw [dg_succ, d1, e1, h1]
set_option maxHeartbeats 3200000 in
theorem l03Draw_any (B b : Nat) (w : World) (h : Src w B b) :
    Calls Try.prog 61 #[.pointer (some ⟨b, 0, none⟩)] w fun e w' => ∃ v xs, e = .returned (.agg #[v]) ∧ Ow w' w.heap.size w'.heap.size v xs ∧ isBr xs = true ∧ Dr B b w w' := by
  have hbw := h.here
  have hr0 := Lib.hid (Rz.new w (.slice none 0 0) 26)
  have hs0 := Lib.hid (Src.al h (.cells #[.slice none 0 0] 26))
  have hc0 := Lib.hid (Chg.al (lo := b) (hi := b + 1) w (.cells #[.slice none 0 0] 26))
  go_enter Try.func61, Try.ntmps61
  go_upto_region 1 with fail
  obtain ⟨w1, hw1⟩ : ∃ w1, w1 = w.alloc (.cells #[.slice none 0 0] 26) := ⟨_, rfl⟩
  rw [← hw1] at hr0 hs0 hc0 ⊢
  clear hw1
  go_wp2_with fail
  refine (l01Pick_any B b w1.heap.size 4 [6, 12, 30, 64] _ (Src.al hs0.out _) (by omega) (by omega) (lit_own hs0.out.here _ 4 rfl (by omega))).mono ?_
  rintro e w2 ⟨p, rfl, hp, hs2, hc2⟩
  have hp2 : 1 ≤ p ∧ p ≤ 64 := by simp at hp; omega
  have c2 := (hc0.out.trans (Chg.al _ _)).trans hc2
  have v2 := Lib.hid ((hr0.out.al _).chg hc2 (.inr (by omega)))
  clear hp hc2 hr0 hs0 hc0
  go_wp2_with fail
  refine (l03Small_any B b p _ hs2 hp2).mono ?_
  rintro e w3 ⟨v3, xs, rfl, ow3, hxs, hs3, hc3⟩
  have c3 := c2.trans hc3
  have r3 := Lib.hid (v2.out.chg hc3 (.inr (by omega)))
  have hz2 := v2.out.here
  have hz3 := r3.out.here
  obtain ⟨A, c, rfl, hnc, hcm⟩ := ow3.shape
  obtain ⟨n, Hn⟩ : ∃ n, Hid (xs.length = n) := ⟨_, Lib.hid rfl⟩
  have ho3 := Lib.hid (ow3.wide (show w.heap.size + 1 ≤ w2.heap.size from hz2) (Nat.le_refl _))
  have hn1 : 1 ≤ n := by rw [← Hn.out]; rcases hxs with h | h | h
                         · exact (isBr_true.1 h).1
                         · rw [h]; decide
                         · rw [h]; decide
  rw [Hn.out] at hnc ho3 ⊢
  clear c2 v2 hs2 hc3 ow3
  have s4 := Lib.hid (Src.al hs3 (.cells #[.slice A n c] 26))
  have c4 := Lib.hid (c3.trans (Chg.al (lo := b) (hi := b + 1) w3 (.cells #[.slice A n c] 26)))
  have r4 := Lib.hid (r3.out.al (.cells #[.slice A n c] 26))
  have x4 := Lib.hid (Rz.new w3 (.slice A n c) 26)
  have o4 := Lib.hid ((ho3.out.alloc (.cells #[.slice A n c] 26)).wide (Nat.le_refl _) (show w3.heap.size ≤ (w3.alloc (.cells #[.slice A n c] 26)).heap.size by simp))
  clear hs3 c3 r3 ho3
  go_upto_region 2 with fail
  obtain ⟨w4, hw4⟩ : ∃ w4, w4 = w3.alloc (.cells #[.slice A n c] 26) := ⟨_, rfl⟩
  have hz4 : w3.heap.size < w4.heap.size := by rw [hw4]; simp
  rw [← hw4] at s4 c4 r4 x4 o4 ⊢
  clear hw4
  obtain ⟨r4c, r4f⟩ := r4.out
  have x4c := x4.out.1
  have hlw := r4.out.here
  obtain ⟨A9, n9, c9, e9, hnc9, hcm9, hrd9⟩ := o4.out.isB
  cases e9
  obtain ⟨ad, rfl, hab, hcl⟩ := hrd9.pos (by omega)
  have hc0 : w4.cell? ad = some (.int .i64 (gx xs 0)) := by have := hcl 0 (by omega); simpa [Addr.add] using this
  obtain ⟨g, cg, eg⟩ := Go.Joins.ownsRow_form o4.out.1 (by rw [Hn.out]; omega)
  obtain rfl : ad = ⟨g, 0, none⟩ := by cases eg; rfl
  have hgl := (o4.out.low (k := g) rfl).1
  clear hrd9 hcl eg
  have hret : isBr xs = true → Ow (w4.setCell ⟨w.heap.size, 0, none⟩ (.slice (some ⟨g, 0, none⟩) n c)) w.heap.size (w4.setCell ⟨w.heap.size, 0, none⟩ (.slice (some ⟨g, 0, none⟩) n c)).heap.size (.slice (some ⟨g, 0, none⟩) n c) xs ∧ isBr xs = true ∧ Dr B b w (w4.setCell ⟨w.heap.size, 0, none⟩ (.slice (some ⟨g, 0, none⟩) n c)) := by
    intro hb
    refine ⟨(o4.out.keep (Chg.setC (lo := w.heap.size) (hi := w.heap.size + 1) (p := ⟨w.heap.size, 0, none⟩) ⟨Nat.le_refl _, Nat.lt_succ_self _⟩ _) (.inr (Nat.le_refl _))).wide (by omega) (by simp), hb, ?_, ?_⟩
    · exact s4.out.keep (Chg.setC (lo := w.heap.size) (hi := w.heap.size + 1) (p := ⟨w.heap.size, 0, none⟩) ⟨Nat.le_refl _, Nat.lt_succ_self _⟩ _) (.inl (by omega)) (.inl (by have := s4.out.lt; omega))
    · exact ⟨c4.out.os, c4.out.tape, c4.out.output, by simpa using c4.out.size, fun x hx hn => (Below.heap_setCell w4 ⟨w.heap.size, 0, none⟩ _ x (by show x ≠ w.heap.size; omega)).trans (c4.out.block x hx hn)⟩
  have Hret := Lib.hid hret
  have hr7 := Lib.hid (r4.out.set (.slice (some ⟨g, 0, none⟩) n c)).1
  clear hret
  by_cases h1 : n = 1
  · have h1' : ((n : Int) == 1) = true := by simp [h1]
    by_cases h2 : 1 < gx xs 0
    · have hX : gx xs 0 = 2 ∨ gx xs 0 = 3 := by
        rcases hxs with h | h | h
        · exfalso
          have h3 := (isBr_true.1 h).2.2.2
          rw [Hn.out, h1, dg_one _ (by omega)] at h3
          omega
        · rw [h]; exact .inl rfl
        · rw [h]; exact .inr rfl
      generalize gx xs 0 = X at *
      have hi0 : (0 : Int) < (n : Int) := by omega
      have hi00 : 0 < n := by omega
      clear hxs h1 Hret hr7 o4
      have S0 : Src w4 B b ∧ Chg b (b + 1) w w4 ∧ w4.cell? ⟨w3.heap.size, 0, none⟩ = some (.slice (some ⟨g, 0, none⟩) n c) ∧ w4.cell? ⟨g, 0, none⟩ = some (.int .i64 X) := ⟨s4.out, c4.out, x4c, hc0⟩
      have hgne : g ≠ w.heap.size := by omega
      go_wp2_with fail
      go_region_held3 (fun W => Src W B b ∧ Chg b (b + 1) w W ∧ W.cell? ⟨w3.heap.size, 0, none⟩ = some (.slice (some ⟨g, 0, none⟩) n c) ∧ W.cell? ⟨g, 0, none⟩ = some (.int .i64 X)) (first | exact ⟨S0.1.later ((Below.refl _ _).drew), S0.2.1.trans (Chg.of_drew _ _ _), S0.2.2⟩ | exact qq | exact s4_al qq _ | exact s4_set (s4_al qq _) _ _ (by omega) (by omega) (by omega) (by omega) | assumption)
        (first
          | (go_at_call 42; obtain ⟨sa, sb, se, sf⟩ := (by assumption : Src _ B b ∧ _); refine (l01Next_any B b 9 _ sa (by omega)).mono ?_; rintro e w5 ⟨r5, rfl, hr5, hs5, hc5⟩; have qq := And.intro hs5 (And.intro (sb.trans hc5) (And.intro (hc5.cell se (.inr (by omega))) (hc5.cell sf (.inr (by omega))))); have q1 := Rz.chg (show Rz w4.drew w.heap.size (.slice none 0 0) from ⟨r4c, r4f⟩) hc5 (.inr (by omega)); have q2 := q1.1; have q3 := fun o => (q1.al o).1; have q4 := fun o => (q1.al o).2; clear sa sb se sf))
      rename_i hH
      have hr50 := hr5.1
      have hr51 := hr5.2.1 (by omega)
      have hw1 : IntKind.i64.wrap (1 + r5) = 1 + r5 := IntWalk.i64_in _ (by omega)
      have hXr : 0 ≤ X * (1 + r5) ∧ X * (1 + r5) ≤ 27 := by rcases hX with rfl | rfl <;> omega
      rw [hw1, IntWalk.i64_in (X * (1 + r5)) (by omega), IntWalk.i64_in (X * (1 + r5) + 1) (by omega)] at hH ⊢
      have hbr := Lib.hid (br_pair (k := 1 + r5) hX (by omega))
      have ho := Lib.hid (show Ow (w5.alloc (.cells #[.int .i64 X, .int .i64 (X * (1 + r5) + 1)] 2)) (w.heap.size + 1) (w5.alloc (.cells #[.int .i64 X, .int .i64 (X * (1 + r5) + 1)] 2)).heap.size (.slice (some ⟨w5.heap.size, 0, none⟩) 2 2) [X, X * (1 + r5) + 1] from Ow.of_own (n := 2) (World.ownsRow_lit (base := w.heap.size + 1) (e := 2) (size := 1) w5 #[.int .i64 X, .int .i64 (X * (1 + r5) + 1)] 2 q1.here (by unfold maxLen; omega) rfl))
      have ho2 := Lib.hid ((ho.out.keep (Chg.setC (lo := w.heap.size) (hi := w.heap.size + 1) (p := ⟨w.heap.size, 0, none⟩) ⟨Nat.le_refl _, Nat.lt_succ_self _⟩ (.slice (some ⟨w5.heap.size, 0, none⟩) 2 2)) (.inr (Nat.le_refl _))).wide (lo' := w.heap.size) (by omega) (show (w5.alloc (.cells #[.int .i64 X, .int .i64 (X * (1 + r5) + 1)] 2)).heap.size ≤ ((w5.alloc (.cells #[.int .i64 X, .int .i64 (X * (1 + r5) + 1)] 2)).setCell ⟨w.heap.size, 0, none⟩ (.slice (some ⟨w5.heap.size, 0, none⟩) 2 2)).heap.size by simp))
      have hrc := ((q1.al (.cells #[.int .i64 X, .int .i64 (X * (1 + r5) + 1)] 2)).set (.slice (some ⟨w5.heap.size, 0, none⟩) 2 2)).1
      have HH := Lib.hid (And.intro hH.1 hH.2.1)
      clear hH ho q1 q2 q3 q4 qq hw1
      obtain ⟨wz, hwz⟩ : ∃ wz, wz = (w5.alloc (.cells #[.int .i64 X, .int .i64 (X * (1 + r5) + 1)] 2)).setCell ⟨w.heap.size, 0, none⟩ (.slice (some ⟨w5.heap.size, 0, none⟩) 2 2) := ⟨_, rfl⟩
      rw [← hwz] at HH ho2 hrc ⊢
      clear hwz
      go_wp2_with fail
      refine bodyPost_ret (v := .agg #[.slice (some ⟨w5.heap.size, 0, none⟩) 2 2]) (by simp [results, Try.results61, go_sem, hrc]) rfl ?_
      first | exact ⟨_, _, rfl, ho2.out, hbr.out, HH.out⟩ | exact ⟨_, rfl, _, ho2.out, hbr.out, HH.out⟩
    · have hb : isBr xs = true := by
        rcases hxs with h | h | h
        · exact h
        · rw [h] at h2; exact absurd (by decide) h2
        · rw [h] at h2; exact absurd (by decide) h2
      have Hb := Lib.hid hb
      generalize gx xs 0 = X at *
      clear hxs h1 hb
      go_wp2_with fail
      have hr8 := hr7.out
      refine bodyPost_ret (v := .agg #[.slice (some ⟨g, 0, none⟩) n c]) (by simp [results, Try.results61, go_sem, hr8]) rfl ?_
      first | exact ⟨_, _, rfl, Hret.out Hb.out⟩ | exact ⟨_, rfl, _, Hret.out Hb.out⟩
  · have h1' : ((n : Int) == 1) = false := by rw [beq_eq_false_iff_ne]; omega
    have hb : isBr xs = true := by
      rcases hxs with h | h | h
      · exact h
      · exact absurd (by rw [← Hn.out, h]; rfl) h1
      · exact absurd (by rw [← Hn.out, h]; rfl) h1
    have Hb := Lib.hid hb
    clear hxs h1 hb
    go_wp2_with fail
    have hr8 := hr7.out
    refine bodyPost_ret (v := .agg #[.slice (some ⟨g, 0, none⟩) n c]) (by simp [results, Try.results61, go_sem, hr8]) rfl ?_
    first | exact ⟨_, _, rfl, Hret.out Hb.out⟩ | exact ⟨_, rfl, _, Hret.out Hb.out⟩
section
variable {W : World} {B b p : Nat} {u : Value}
theorem s2_al (h : Src W B b ∧ W.cell? ⟨p, 0, none⟩ = some u) (o : Obj) : Src (W.alloc o) B b ∧ (W.alloc o).cell? ⟨p, 0, none⟩ = some u := ⟨Src.al h.1 o, cell_alloc h.2 o⟩
theorem s2_drew (h : Src W B b ∧ W.cell? ⟨p, 0, none⟩ = some u) : Src W.drew B b ∧ W.drew.cell? ⟨p, 0, none⟩ = some u := ⟨h.1.later ((Below.refl _ _).drew), h.2⟩
theorem s2_set (h : Src W B b ∧ W.cell? ⟨p, 0, none⟩ = some u) (r : Nat) (v : Value) (h1 : b < r) (h3 : p ≠ r) : Src (W.setCell ⟨r, 0, none⟩ v) B b ∧ (W.setCell ⟨r, 0, none⟩ v).cell? ⟨p, 0, none⟩ = some u :=
  ⟨h.1.keep (Chg.setC (lo := r) (hi := r + 1) (p := ⟨r, 0, none⟩) ⟨Nat.le_refl _, Nat.lt_succ_self _⟩ _) (.inl h1) (.inl (by have := h.1.lt; omega)), cell_far (q := ⟨p, 0, none⟩) h.2 h3⟩
end
/-- A list that reads, in a block from lo on. -/
def Il (w : World) (lo : Nat) (v : Value) (xs : List Int) : Prop := Is w w.heap.size v xs ∧ ∀ k, v.ownBlock = some k → lo ≤ k
theorem Ow.il {w : World} {lo lo' hi : Nat} {v : Value} {xs : List Int} (h : Ow w lo hi v xs) (hl : lo' ≤ lo) : Il w lo' v xs := ⟨h.is, fun k hk => by have := (h.1.lt k hk).1; omega⟩
theorem Il.chg {w w' : World} {lo a b : Nat} {v : Value} {xs : List Int} (h : Il w lo v xs) (hc : Chg a b w w') (hd : b ≤ lo) : Il w' lo v xs := by
  obtain ⟨⟨A, n, c, rfl, h1, h2, h3⟩, hl⟩ := h
  refine ⟨⟨A, n, c, rfl, h1, h2, ⟨h3.len, fun hn => ?_⟩⟩, hl⟩
  obtain ⟨ad, rfl, hb, hcl⟩ := h3.pos hn
  have hlo := hl ad.block rfl
  refine ⟨ad, rfl, by have := hc.size; omega, fun j hj => ?_⟩
  exact (World.cell?_of_block (w := w) (hc.block _ (by rw [block_of_add]; exact hb) (by rw [block_of_add]; omega))).trans (hcl j hj)
theorem Il.later {w w' : World} {lo : Nat} {v : Value} {xs : List Int} (h : Il w lo v xs) (hb : Below w.heap.size w w') : Il w' lo v xs := h.chg (Chg.of_below hb) (Nat.zero_le _)
/-- The result's cell is written, last of all. -/
theorem fin_out {w wx : World} {B b r : Nat} {u v : Value} {xs : List Int} (v2 : Value) (hs : Src wx B b) (hc : Chg b (b + 1) w wx) (hr : Rz wx r u) (hw : w.heap.size ≤ r) (hb : b < r) (ho : Ow wx (r + 1) wx.heap.size v xs) :
    (wx.setCell ⟨r, 0, none⟩ v2).cell? ⟨r, 0, none⟩ = some v2 ∧ Ow (wx.setCell ⟨r, 0, none⟩ v2) w.heap.size (wx.setCell ⟨r, 0, none⟩ v2).heap.size v xs ∧ Dr B b w (wx.setCell ⟨r, 0, none⟩ v2) := by
  have hcs : Chg r (r + 1) wx (wx.setCell ⟨r, 0, none⟩ v2) := Chg.setC (lo := r) (hi := r + 1) (p := ⟨r, 0, none⟩) ⟨Nat.le_refl _, Nat.lt_succ_self _⟩ _
  refine ⟨(hr.set v2).1, (ho.keep hcs (.inr (Nat.le_refl _))).wide (by omega) (by simp), hs.keep hcs (.inl hb) (.inl (by have := hs.lt; omega)), ?_⟩
  exact ⟨hc.os, hc.tape, hc.output, by simpa using hc.size, fun x hx hn => (Below.heap_setCell wx ⟨r, 0, none⟩ _ x (by show x ≠ r; omega)).trans (hc.block x hx hn)⟩
theorem own_old {w : World} {lo g n c : Nat} {xs : List Int} {k : Nat} (h : w.ownsRow lo 2 1 (.slice (some ⟨g, 0, none⟩) n c) n (xs.map (Value.int .i64))) (hk : k < n) : ∃ old, w.cell? ⟨g, k, none⟩ = some old := by
  have hl : xs.length = n := by have := h.1; simpa using this
  rw [h.cellAt k (by omega)]
  exact ⟨_, List.getElem?_eq_getElem (by simp; omega)⟩
theorem Ow.n {w : World} {lo hi n : Nat} {v : Value} {xs : List Int} (h : Ow w lo hi v xs) (e : Hid (xs.length = n)) : w.ownsRow lo 2 1 v n (xs.map (Value.int .i64)) := by
  have h1 := h.1
  rw [e.out] at h1; exact h1
set_option maxHeartbeats 3200000 in
theorem l03Spoil_any (B b : Nat) (w : World) (h : Src w B b) :
    Calls Try.prog 40 #[.pointer (some ⟨b, 0, none⟩)] w fun e w' => ∃ v xs, e = .returned (.agg #[v]) ∧ Il w' w.heap.size v xs ∧ Dr B b w w' := by
  have hbw := h.here
  have hr0 := Lib.hid (Rz.new w (.slice none 0 0) 26)
  have hs0 := Lib.hid (Src.al h (.cells #[.slice none 0 0] 26))
  have hc0 := Lib.hid (Chg.al (lo := b) (hi := b + 1) w (.cells #[.slice none 0 0] 26))
  go_enter Try.func40, Try.ntmps40
  go_upto_region 1 with fail
  obtain ⟨w1, hw1⟩ : ∃ w1, w1 = w.alloc (.cells #[.slice none 0 0] 26) := ⟨_, rfl⟩
  rw [← hw1] at hr0 hs0 hc0 ⊢
  clear hw1
  go_wp2_with fail
  refine (l03Draw_any B b _ hs0.out).mono ?_
  rintro e w3 ⟨v3, xs, rfl, ow3, hxs, hs3, hc3⟩
  have c3 := hc0.out.trans hc3
  have r3 := Lib.hid (hr0.out.chg hc3 (.inr (by omega)))
  have hz1 := hr0.out.here
  have hz3 := r3.out.here
  obtain ⟨A, c, rfl, hnc, hcm⟩ := ow3.shape
  obtain ⟨n, Hn⟩ : ∃ n, Hid (xs.length = n) := ⟨_, Lib.hid rfl⟩
  have hn1 : 1 ≤ n := by rw [← Hn.out]; exact (isBr_true.1 hxs).1
  have hn7 : n ≤ 7 := by rw [← Hn.out]; exact isBr_len_le hxs
  have ho3 := Lib.hid (ow3.wide (show w.heap.size + 1 ≤ w1.heap.size from hz1) (Nat.le_refl _))
  rw [Hn.out] at hnc ho3 ⊢
  obtain ⟨g, cg, eg⟩ := Go.Joins.ownsRow_form (show w3.ownsRow (w.heap.size + 1) 2 1 (.slice A n c) n (xs.map (Value.int .i64)) by have h := ho3.out.1; rw [Hn.out] at h; exact h) (by omega)
  obtain rfl : A = some ⟨g, 0, none⟩ := by cases eg; rfl
  clear eg
  have hgl := (ho3.out.low (k := g) rfl)
  clear hs0 hc0 hr0 hc3 ow3
  have s4 := Lib.hid (Src.al hs3 (.cells #[.slice (some ⟨g, 0, none⟩) n c] 26))
  have c4 := Lib.hid (c3.trans (Chg.al (lo := b) (hi := b + 1) w3 (.cells #[.slice (some ⟨g, 0, none⟩) n c] 26)))
  have r4 := Lib.hid (r3.out.al (.cells #[.slice (some ⟨g, 0, none⟩) n c] 26))
  have x4 := Lib.hid (Rz.new w3 (.slice (some ⟨g, 0, none⟩) n c) 26)
  have o4 := Lib.hid ((ho3.out.alloc (.cells #[.slice (some ⟨g, 0, none⟩) n c] 26)).wide (Nat.le_refl _) (show w3.heap.size ≤ (w3.alloc (.cells #[.slice (some ⟨g, 0, none⟩) n c] 26)).heap.size by simp))
  clear hs3 c3 r3 ho3
  go_upto_region 2 with fail
  obtain ⟨w4, hw4⟩ : ∃ w4, w4 = w3.alloc (.cells #[.slice (some ⟨g, 0, none⟩) n c] 26) := ⟨_, rfl⟩
  have hz4 : w3.heap.size < w4.heap.size := by rw [hw4]; simp
  rw [← hw4] at s4 c4 r4 x4 o4 ⊢
  clear hw4
  go_wp2_with fail
  refine (l01Next_any B b 30 _ s4.out (by omega)).mono ?_
  rintro e w5 ⟨r5, rfl, hr5, hs5, hc5⟩
  have c5 := Lib.hid (c4.out.trans hc5)
  have r5z := Lib.hid (r4.out.chg hc5 (.inr (by omega)))
  have x5 := Lib.hid (x4.out.chg hc5 (.inr (by omega)))
  have o5 := Lib.hid ((o4.out.keep hc5 (.inr (by omega))).wide (Nat.le_refl _) hc5.size)
  have hz5 := hc5.size
  have s5 := Lib.hid hs5
  clear hr5 hs5 hc5 s4 c4 r4 x4 o4
  obtain ⟨x5c, x5f⟩ := x5.out
  obtain ⟨r5c, r5f⟩ := r5z.out
  have hi0 : (0 : Int) < (n : Int) := by omega
  have hi00 : 0 < n := by omega
  by_cases h0 : r5 = 0
  · have h0' : (r5 == 0) = true := by simp [h0]
    clear h0
    have S0 : Src w5 B b ∧ w5.cell? ⟨w3.heap.size, 0, none⟩ = some (.slice (some ⟨g, 0, none⟩) n c) := ⟨s5.out, x5c⟩
    go_wp2_with fail
    go_region_held3 (fun W => Src W B b ∧ W.cell? ⟨w3.heap.size, 0, none⟩ = some (.slice (some ⟨g, 0, none⟩) n c)) (first | exact s2_drew S0 | exact s2_drew (s2_al S0 _) | exact s2_al (s2_drew S0) _ | exact qq | exact s2_set qq _ _ (by omega) (by omega) | assumption)
      (first
        | (go_at_call 41; refine (l01Pick_any B b w5.heap.size 4 [0, -1, 65, 2] _ (by first | exact (s2_drew (s2_al S0 _)).1 | exact (s2_al (s2_drew S0) _).1) (by omega) (by omega) (by first | exact lit_own s5.out.here _ 4 rfl (by omega))).mono ?_; rintro e w6 ⟨r6, rfl, hr6, hs6, hc6⟩; have hc6' := (show Chg b (b + 1) w5 _ from by first | exact (Chg.al _ _).trans hc6 | exact (Chg.of_drew _ _ _).trans ((Chg.al _ _).trans hc6) | exact (Chg.al _ _).trans ((Chg.of_drew _ _ _).trans hc6)); have qq := And.intro hs6 ((x5.out.chg hc6' (.inr (by omega))).1); have o6 := o5.out.keep hc6' (.inr (by omega)); have f6 := (Ow.n o6 Hn).frozenAt 0; obtain ⟨old, hold⟩ := own_old (Ow.n o6 Hn) hi00))
    rename_i hH
    have hst := (Ow.n o6 Hn).stored 0 (.int .i64 r6)
    have hz6 := hc6'.size
    have r6z := r5z.out.chg hc6' (.inr (by omega))
    have c6 := c5.out.trans hc6'
    obtain ⟨wz, hwz⟩ : ∃ wz, wz = w6.setCell ⟨g, 0, none⟩ (.int .i64 r6) := ⟨_, rfl⟩
    have hcz : Chg b (b + 1) w wz := by rw [hwz]; exact ⟨c6.os, c6.tape, c6.output, by simpa using c6.size, fun x hx hn => (Below.heap_setCell w6 ⟨g, 0, none⟩ _ x (by show x ≠ g; omega)).trans (c6.block x hx hn)⟩
    have hrz : Rz wz w.heap.size (.slice none 0 0) := by rw [hwz]; exact r6z.chg (Chg.setC (lo := g) (hi := g + 1) (p := ⟨g, 0, none⟩) ⟨Nat.le_refl _, Nat.lt_succ_self _⟩ _) (.inl (by omega))
    have hoz : Ow wz (w.heap.size + 1) wz.heap.size (.slice (some ⟨g, 0, none⟩) n c) (xs.set 0 r6) := by
      refine Ow.of_own (n := n) ?_
      rw [hwz, List.map_set]; exact hst.1
    rw [← hwz] at hH ⊢
    obtain ⟨f1, f2, f3⟩ := fin_out (.slice (some ⟨g, 0, none⟩) n c) hH.1 hcz hrz (Nat.le_refl _) hbw hoz
    have F2 := Lib.hid f2; have F3 := Lib.hid f3
    obtain ⟨hrz1, hrz2⟩ := hrz
    have hxz := hH.2
    clear f2 f3 hst hwz hH hcz hoz o6 qq c6 S0
    go_wp2_with fail
    refine bodyPost_ret (v := .agg #[.slice (some ⟨g, 0, none⟩) n c]) (by simp [results, Try.results40, go_sem, f1]) rfl ?_
    first | exact ⟨_, _, rfl, Ow.il F2.out (Nat.le_refl _), F3.out⟩ | exact ⟨_, rfl, ⟨_, Ow.il F2.out (Nat.le_refl _)⟩, F3.out⟩ | exact ⟨_, rfl, _, Ow.il F2.out (Nat.le_refl _), F3.out⟩
  · have h0' : (r5 == 0) = false := by rw [beq_eq_false_iff_ne]; exact h0
    clear h0
    by_cases h1 : r5 = 1
    · have h1' : (r5 == 1) = true := by simp [h1]
      clear h1
      have S0 : Src w5 B b ∧ w5.cell? ⟨w.heap.size, 0, none⟩ = some (.slice none 0 0) := ⟨s5.out, r5c⟩
      have X1 : ∀ o, (w5.alloc o).cell? ⟨w3.heap.size, 0, none⟩ = some (.slice (some ⟨g, 0, none⟩) n c) := fun o => (x5.out.al o).1
      go_wp2_with fail
      go_region_law
        (first
          | (go_simp; go_at_call 41; refine (l01Pick_any B b w5.heap.size 4 [2001, 1999, 5, 1099511627776] _ (by first | exact (s2_drew (s2_al S0 _)).1 | exact (s2_al (s2_drew S0) _).1) (by omega) (by omega) (by first | exact lit_own s5.out.here _ 4 rfl (by omega))).mono ?_; rintro e w6 ⟨r6, rfl, hr6, hs6, hc6⟩; have hc6' := (show Chg b (b + 1) w5 _ from by first | exact (Chg.al _ _).trans hc6 | exact (Chg.of_drew _ _ _).trans ((Chg.al _ _).trans hc6) | exact (Chg.al _ _).trans ((Chg.of_drew _ _ _).trans hc6)); have x6 := x5.out.chg hc6' (.inr (by omega)); have x6c := x6.1; have x6d := fun o => (x6.al o).1; have hz6 := hc6'.size; have o6 := Lib.hid (Ow.n (o5.out.keep hc6' (.inr (by omega))) Hn))
          | (refine step_append_i (by rfl) _ _ (by rfl) (w.heap.size + 1) (.slice (some ⟨g, 0, none⟩) n c) n xs (by simp [Act.eval]) (o6.out.alloc _) w6.heap.size r6 1 (by simp [Act.eval]) (by simp [go_sem]) (by omega) (by simp; omega) ?_; intro g' cap' w7 hown7 hgrow hat hlt7; have x7 := (x6.al _).grown hgrow (fun k e => by cases e; show w3.heap.size ≠ g; omega); obtain ⟨x7c, x7f⟩ := x7))
      all_goals
        have r7 := ((r5z.out.chg hc6' (.inr (by omega))).al (.cells #[.int .i64 r6] 2)).grown hgrow (fun k e => by have := (o6.out.lt k e).1; omega)
        have s7 := src_grow (lo := w.heap.size) hs6 (.cells #[.int .i64 r6] 2) hgrow hbw (fun k e => by have := (o6.out.lt k e).1; omega)
        have c7 := chg_grow (c5.out.trans hc6') (.cells #[.int .i64 r6] 2) hgrow (fun k e => by have := (o6.out.lt k e).1; omega)
        have o7 := Ow.of_own (xs := xs ++ [r6]) (n := n + 1) (lo := w.heap.size + 1) (by simpa using hown7)
        have hgx : g' ≠ w3.heap.size := by
          rcases hat with e | e
          · have : g = g' := by simpa [Value.ownBlock] using e
            omega
          · rw [e]; simp; omega
        obtain ⟨wz, hwz⟩ : ∃ wz, wz = w7.setCell ⟨w3.heap.size, 0, none⟩ (.slice (some ⟨g', 0, none⟩) (n + 1) cap') := ⟨_, rfl⟩
        have hcs : Chg w3.heap.size (w3.heap.size + 1) w7 wz := by rw [hwz]; exact Chg.setC (lo := w3.heap.size) (hi := w3.heap.size + 1) (p := ⟨w3.heap.size, 0, none⟩) ⟨Nat.le_refl _, Nat.lt_succ_self _⟩ _
        have hxz : wz.cell? ⟨w3.heap.size, 0, none⟩ = some (.slice (some ⟨g', 0, none⟩) (n + 1) cap') := by rw [hwz]; exact (Rz.set ⟨x7c, x7f⟩ _).1
        have hsz := s7.keep hcs (.inl (by omega)) (.inl (by have := s7.lt; omega))
        have hcz : Chg b (b + 1) w wz := by rw [hwz]; exact ⟨c7.os, c7.tape, c7.output, by simpa using c7.size, fun x hx hn => (Below.heap_setCell w7 ⟨w3.heap.size, 0, none⟩ _ x (by show x ≠ w3.heap.size; omega)).trans (c7.block x hx hn)⟩
        have hrz := r7.chg hcs (.inl (by omega))
        have hoz : Ow wz (w.heap.size + 1) wz.heap.size (.slice (some ⟨g', 0, none⟩) (n + 1) cap') (xs ++ [r6]) := by
          have hst := hown7.kept (row := some w3.heap.size) (w' := wz) ⟨hcs.os, hcs.tape, hcs.output, hcs.size, fun k hk hne => hcs.block k hk (by intro hh; exact hne (by simp; omega))⟩ (.inr (by simpa [Value.ownBlock] using hgx))
          exact Ow.of_own (n := n + 1) (by simpa using hst)
        rw [← hwz]
        obtain ⟨f1, f2, f3⟩ := fin_out (.slice (some ⟨g', 0, none⟩) (n + 1) cap') hsz hcz hrz (Nat.le_refl _) hbw hoz
        have F2 := Lib.hid f2; have F3 := Lib.hid f3
        obtain ⟨hrz1, hrz2⟩ := hrz
        clear f2 f3 hwz hcz hoz hsz hcs o6 o7 x6 x6c x6d x7c x7f hown7 hgrow hat r7 s7 c7 S0 X1
        go_wp2_with fail
        refine bodyPost_ret (v := .agg #[.slice (some ⟨g', 0, none⟩) (n + 1) cap']) (by simp [results, Try.results40, go_sem, f1]) rfl ?_
        first | exact ⟨_, _, rfl, Ow.il F2.out (Nat.le_refl _), F3.out⟩ | exact ⟨_, rfl, ⟨_, Ow.il F2.out (Nat.le_refl _)⟩, F3.out⟩ | exact ⟨_, rfl, _, Ow.il F2.out (Nat.le_refl _), F3.out⟩
    · have h1' : (r5 == 1) = false := by rw [beq_eq_false_iff_ne]; exact h1
      clear h1
      by_cases h2 : r5 = 2
      · have h2' : (r5 == 2) = true := by simp [h2]
        clear h2
        have hcs := fun v => Chg.setC (lo := w3.heap.size) (hi := w3.heap.size + 1) (w := w5) (p := ⟨w3.heap.size, 0, none⟩) ⟨Nat.le_refl _, Nat.lt_succ_self _⟩ v
        have hsz := fun v => s5.out.keep (hcs v) (.inl (by omega)) (.inl (by have := s5.out.lt; omega))
        have hcz : ∀ v, Chg b (b + 1) w (w5.setCell ⟨w3.heap.size, 0, none⟩ v) := fun v => ⟨c5.out.os, c5.out.tape, c5.out.output, by simpa using c5.out.size, fun x hx hn => (Below.heap_setCell w5 ⟨w3.heap.size, 0, none⟩ _ x (by show x ≠ w3.heap.size; omega)).trans (c5.out.block x hx hn)⟩
        have hrz := fun v => r5z.out.chg (hcs v) (.inl (by omega))
        have hoz : ∀ v, Ow (w5.setCell ⟨w3.heap.size, 0, none⟩ v) (w.heap.size + 1) (w5.setCell ⟨w3.heap.size, 0, none⟩ v).heap.size (.slice (some ⟨g, 0, none⟩) n c) xs := fun v => by
          have hst := o5.out.1.kept (row := some w3.heap.size) (w' := w5.setCell ⟨w3.heap.size, 0, none⟩ v) ⟨(hcs v).os, (hcs v).tape, (hcs v).output, (hcs v).size, fun k hk hne => (hcs v).block k hk (by intro hh; exact hne (by simp; omega))⟩ (.inr (by simp [Value.ownBlock]; omega))
          exact Ow.of_own hst
        have hfin := fun v => fin_out v (hsz v) (hcz v) (hrz v) (Nat.le_refl _) hbw (hoz v)
        have Hf := Lib.hid hfin
        have hq1 := fun v => (hrz v).1
        have hq2 := fun v => (hrz v).2
        have hq3 : ∀ v, (w5.setCell ⟨w3.heap.size, 0, none⟩ v).cell? ⟨w3.heap.size, 0, none⟩ = some v := fun v => (x5.out.set v).1
        clear hfin hoz hrz hcz hsz hcs
        by_cases hc1 : c = 1
        · obtain rfl : n = 1 := by omega
          subst hc1
          obtain ⟨f1, f2, f3⟩ := Hf.out (.slice (some ⟨g, 0, none⟩) 0 0)
          have F3 := Lib.hid f3
          clear f2 f3
          go_wp2_with fail
          refine bodyPost_ret (v := .agg #[.slice (some ⟨g, 0, none⟩) 0 0]) (by simp [results, Try.results40, go_sem, f1]) rfl ?_
          have hnil : Is ((w5.setCell ⟨w3.heap.size, 0, none⟩ (.slice (some ⟨g, 0, none⟩) 0 0)).setCell ⟨w.heap.size, 0, none⟩ (.slice (some ⟨g, 0, none⟩) 0 0)) ((w5.setCell ⟨w3.heap.size, 0, none⟩ (.slice (some ⟨g, 0, none⟩) 0 0)).setCell ⟨w.heap.size, 0, none⟩ (.slice (some ⟨g, 0, none⟩) 0 0)).heap.size (.slice (some ⟨g, 0, none⟩) 0 0) [] := ⟨_, 0, 0, rfl, by omega, by unfold maxLen; omega, ⟨rfl, fun h => by omega⟩⟩
          have hnil : Il _ w.heap.size _ _ := ⟨hnil, fun k hk => by (have hgk : g = k := by simpa [Value.ownBlock] using hk); omega⟩
          first | exact ⟨_, _, rfl, hnil, F3.out⟩ | exact ⟨_, rfl, ⟨_, hnil⟩, F3.out⟩ | exact ⟨_, rfl, _, hnil, F3.out⟩
        · have hc2 : 2 ≤ c := by omega
          obtain ⟨f1, f2, f3⟩ := Hf.out (.slice (some ⟨g, 1, none⟩) (n - 1) (c - 1))
          have F2 := Lib.hid (show Il _ w.heap.size _ _ from ⟨tail_is f2.is hn1 hnc (by unfold maxLen; omega), fun k hk => by (have hgk : g = k := by simpa [Value.ownBlock] using hk); omega⟩)
          have F3 := Lib.hid f3
          clear f2 f3
          go_wp2_with fail
          refine bodyPost_ret (v := .agg #[.slice (some ⟨g, 1, none⟩) (n - 1) (c - 1)]) (by simp [results, Try.results40, go_sem, f1]) rfl ?_
          first | exact ⟨_, _, rfl, F2.out, F3.out⟩ | exact ⟨_, rfl, ⟨_, F2.out⟩, F3.out⟩ | exact ⟨_, rfl, _, F2.out, F3.out⟩
      · have h2' : (r5 == 2) = false := by rw [beq_eq_false_iff_ne]; exact h2
        clear h2
        obtain ⟨f1, f2, f3⟩ := fin_out (.slice (some ⟨g, 0, none⟩) n c) s5.out c5.out r5z.out (Nat.le_refl _) hbw o5.out
        have F2 := Lib.hid f2; have F3 := Lib.hid f3
        clear f2 f3
        go_wp2_with fail
        refine bodyPost_ret (v := .agg #[.slice (some ⟨g, 0, none⟩) n c]) (by simp [results, Try.results40, go_sem, f1]) rfl ?_
        first | exact ⟨_, _, rfl, Ow.il F2.out (Nat.le_refl _), F3.out⟩ | exact ⟨_, rfl, ⟨_, Ow.il F2.out (Nat.le_refl _)⟩, F3.out⟩ | exact ⟨_, rfl, _, Ow.il F2.out (Nat.le_refl _), F3.out⟩
end WF
end Go.Proofs.Ytcnoaclijhcckaa
namespace Go.Proofs.Ytcnoaclijhcckaa
open Go.RowKit
set_option linter.unusedVariables false
namespace WF
open K Pl WA WC
set_option maxHeartbeats 1600000 in
theorem DrawSequenceOf_any (B : Nat) (v : Value) (n : Nat) (w : World) (h : IsY w B v n) (hB : B ≤ w.heap.size) :
    Calls Try.prog 29 #[v] w fun e w' => ∃ v' xs, e = .returned (.agg #[v']) ∧ Il w' w.heap.size v' xs ∧ Below w.heap.size w w' := by
  have hr0 := Lib.hid (Rz.new w (.slice none 0 0) 26)
  have hb0 := (Below.refl w.heap.size w).alloc (Nat.le_refl _) (.cells #[.slice none 0 0] 26)
  have hy0 := Lib.hid (h.below (hb0.mono hB))
  go_enter Try.func29, Try.ntmps29
  go_upto_region 1 with fail
  obtain ⟨w1, hw1⟩ : ∃ w1, w1 = w.alloc (.cells #[.slice none 0 0] 26) := ⟨_, rfl⟩
  rw [← hw1] at hr0 hb0 hy0 ⊢
  clear hw1
  have hz1 := hr0.out.here
  go_wp2_with fail
  refine (l01From_any B v n _ hy0.out (by omega)).mono ?_
  rintro e w2 ⟨rfl, hs2, hb2⟩
  have hr2 := Lib.hid (hr0.out.later hb2)
  have hw2 := hb0.trans (hb2.mono (by omega))
  have hz2 := hb2.size
  have hs2b := hs2.here
  clear hr0 hb0 hb2
  go_wp2_with fail
  refine (l03Spoil_any B w1.heap.size _ hs2).mono ?_
  rintro e w3 ⟨v3, xs, rfl, il3, hs3, hc3⟩
  have hr3 := Lib.hid (hr2.out.chg hc3 (.inl hz1))
  have hw3 := hw2.trans (hc3.below (by omega) (.inl (by omega)))
  have hz3 := hc3.size
  obtain ⟨A3, n3, c3, e3, _⟩ := il3.1
  subst e3
  have ha := (Below.refl w3.heap.size w3).alloc (Nat.le_refl _) (.cells #[.slice A3 n3 c3] 26)
  have il4 := Lib.hid (Il.later il3 ha)
  have x4 := Lib.hid (Rz.new w3 (.slice A3 n3 c3) 26)
  have s4 := Lib.hid (Src.al hs3 (.cells #[.slice A3 n3 c3] 26))
  have r4 := Lib.hid (hr3.out.al (.cells #[.slice A3 n3 c3] 26))
  have b4 := Lib.hid (hw3.trans (ha.mono (by omega)))
  clear ha il3 hs3 hr3 hw3 hc3 hr2 hw2
  go_upto_region 3 with fail
  obtain ⟨w4, hw4⟩ : ∃ w4, w4 = w3.alloc (.cells #[.slice A3 n3 c3] 26) := ⟨_, rfl⟩
  have hz4 : w3.heap.size + 1 ≤ w4.heap.size := by rw [hw4]; simp
  rw [← hw4] at il4 x4 s4 r4 b4 ⊢
  clear hw4
  go_wp2_with fail
  refine (l01Next_any B w1.heap.size 20 _ s4.out (by omega)).mono ?_
  rintro e w5 ⟨r5, rfl, hr5, hs5, hc5⟩
  have hz5 := hc5.size
  have il5 := Lib.hid (Il.chg il4.out hc5 (by omega))
  have x5 := Lib.hid (x4.out.chg hc5 (.inr (by omega)))
  have r5z := Lib.hid (r4.out.chg hc5 (.inl (by omega)))
  have b5 := Lib.hid (b4.out.trans (hc5.below (by omega) (.inl (by omega))))
  clear hr5 hc5 il4 x4 s4 r4 b4
  by_cases h0 : r5 = 0
  · have h0' : (r5 == 0) = true := by simp [h0]
    clear h0
    go_wp2_with fail
    refine (l01Pick_any B w1.heap.size w5.heap.size 4 [797, 799, 801, 1999] _ (Src.al hs5 _) (by omega) (by omega) (lit_own hs5.here _ 4 rfl (by omega))).mono ?_
    rintro e w6 ⟨r6, rfl, hr6, hs6, hc6⟩
    have hz6 := hc6.size
    simp at hz6
    have r6z := (r5z.out.al _).chg hc6 (.inl (by omega))
    have b6 := (b5.out.alloc (o := .cells #[.int .i64 797, .int .i64 799, .int .i64 801, .int .i64 1999] 2) b5.out.size).trans (hc6.below (by simp; omega) (.inl (by omega)))
    obtain ⟨r6c, r6f⟩ := r6z
    have o6 := Lib.hid (show Il ((w6.setCell ⟨w.heap.size, 0, none⟩ (.slice (some ⟨w6.heap.size, 0, none⟩) 2 2)).alloc (.cells #[.int .i64 2, .int .i64 r6] 2)) w.heap.size (.slice (some ⟨w6.heap.size, 0, none⟩) 2 2) [2, r6] by
      have hl : (w6.setCell ⟨w.heap.size, 0, none⟩ (.slice (some ⟨w6.heap.size, 0, none⟩) 2 2)).heap.size = w6.heap.size := by simp
      have ho := World.ownsRow_lit (base := w.heap.size) (e := 2) (size := 1) (w6.setCell ⟨w.heap.size, 0, none⟩ (.slice (some ⟨w6.heap.size, 0, none⟩) 2 2)) #[.int .i64 2, .int .i64 r6] 2 (by rw [hl]; omega) (by unfold maxLen; omega) rfl
      rw [hl] at ho
      exact Ow.il (Ow.of_own (n := 2) (xs := [2, r6]) ho) (Nat.le_refl _))
    have b7 := Lib.hid ((b6.setCell (p := ⟨w.heap.size, 0, none⟩) (Nat.le_refl _) (.slice (some ⟨w6.heap.size, 0, none⟩) 2 2)).alloc (o := .cells #[.int .i64 2, .int .i64 r6] 2) (by have := b6.size; simpa using this))
    have f7 := ((Rz.set ⟨r6c, r6f⟩ (.slice (some ⟨w6.heap.size, 0, none⟩) 2 2)).al (.cells #[.int .i64 2, .int .i64 r6] 2)).1
    have hlw : w.heap.size < w6.heap.size := by omega
    clear hr6 hc6 b6 il5 x5 r5z b5 hs5 hs6
    go_wp2_with fail
    refine bodyPost_ret (v := .agg #[.slice (some ⟨w6.heap.size, 0, none⟩) 2 2]) (by simp [results, Try.results29, go_sem, f7]) rfl ?_
    first | exact ⟨_, _, rfl, o6.out, b7.out⟩ | exact ⟨_, rfl, ⟨_, o6.out⟩, b7.out⟩ | exact ⟨_, rfl, _, o6.out, b7.out⟩
  · have h0' : (r5 == 0) = false := by rw [beq_eq_false_iff_ne]; exact h0
    clear h0
    obtain ⟨x5c, x5f⟩ := x5.out
    obtain ⟨r5c, r5f⟩ := r5z.out
    have Hw := Lib.hid (b5.out.setCell (p := ⟨w.heap.size, 0, none⟩) (Nat.le_refl _) (.slice A3 n3 c3))
    have Hi := Lib.hid (show Il (w5.setCell ⟨w.heap.size, 0, none⟩ (.slice A3 n3 c3)) w.heap.size (.slice A3 n3 c3) xs from ⟨(Il.chg il5.out (Chg.setC (lo := w.heap.size) (hi := w.heap.size + 1) (p := ⟨w.heap.size, 0, none⟩) ⟨Nat.le_refl _, Nat.lt_succ_self _⟩ _) (by omega)).1, fun k hk => by have := il5.out.2 k hk; omega⟩)
    have hfin := (Rz.set ⟨r5c, r5f⟩ (.slice A3 n3 c3)).1
    clear hs5 il5 b5
    go_wp2_with fail
    refine bodyPost_ret (v := .agg #[.slice A3 n3 c3]) (by simp [results, Try.results29, go_sem, hfin]) rfl ?_
    first | exact ⟨_, _, rfl, Hi.out, Hw.out⟩ | exact ⟨_, rfl, ⟨_, Hi.out⟩, Hw.out⟩ | exact ⟨_, rfl, _, Hi.out, Hw.out⟩
set_option maxHeartbeats 800000 in
theorem DrawBlocksOf_any (B : Nat) (v : Value) (n : Nat) (w : World) (h : IsY w B v n) (hB : B ≤ w.heap.size) :
    Calls Try.prog 6 #[v] w fun e w' => ∃ v' xs, e = .returned (.agg #[v']) ∧ Is w' w'.heap.size v' xs ∧ Below w.heap.size w w' := by
  have hr0 := Lib.hid (Rz.new w (.slice none 0 0) 26)
  have hb0 := (Below.refl w.heap.size w).alloc (Nat.le_refl _) (.cells #[.slice none 0 0] 26)
  have hy0 := Lib.hid (h.below (hb0.mono hB))
  go_enter Try.func6, Try.ntmps6
  go_upto_region 1 with fail
  obtain ⟨w1, hw1⟩ : ∃ w1, w1 = w.alloc (.cells #[.slice none 0 0] 26) := ⟨_, rfl⟩
  rw [← hw1] at hr0 hb0 hy0 ⊢
  clear hw1
  have hz1 := hr0.out.here
  go_wp2_with fail
  refine (DrawSequenceOf_any B v n _ hy0.out (by omega)).mono ?_
  rintro e w3 ⟨v3, xs, rfl, il3, hb3⟩
  obtain ⟨r3, f3⟩ := hr0.out.later hb3
  have hw3 := hb0.trans (hb3.mono (by omega))
  have Hw := Lib.hid (hw3.setCell (p := ⟨w.heap.size, 0, none⟩) (Nat.le_refl _) v3)
  have Hi := Lib.hid (Il.chg il3 (Chg.setC (lo := w.heap.size) (hi := w.heap.size + 1) (p := ⟨w.heap.size, 0, none⟩) ⟨Nat.le_refl _, Nat.lt_succ_self _⟩ v3) (by omega)).1
  have hfin := (Rz.set ⟨r3, f3⟩ v3).1
  obtain ⟨A3, n3, c3, e3, _⟩ := il3.1
  subst e3
  clear hw3 il3 hr0 hb3
  go_wp2_with fail
  refine bodyPost_ret (v := .agg #[.slice A3 n3 c3]) (by simp [results, Try.results6, go_sem, hfin]) rfl ?_
  first | exact ⟨_, _, rfl, Hi.out, Hw.out⟩ | exact ⟨_, rfl, ⟨_, Hi.out⟩, Hw.out⟩ | exact ⟨_, rfl, _, Hi.out, Hw.out⟩
end WF
end Go.Proofs.Ytcnoaclijhcckaa
namespace Go.Proofs.Ytcnoaclijhcckaa
open Go.RowKit
set_option linter.unusedVariables false
namespace WF
open K Pl WA WC WD
set_option maxHeartbeats 800000 in
theorem DrawStrictTransform_any (B : Nat) (v : Value) (n : Nat) (w : World) (h : IsY w B v n) (hB : B ≤ w.heap.size) :
    Calls Try.prog 23 #[v] w fun e w' => ∃ v' xs, e = .returned (.agg #[v']) ∧ Is w' w'.heap.size v' xs ∧ Below w.heap.size w w' := by
  have hr0 := Lib.hid (Rz.new w (.slice none 0 0) 26)
  have hb0 := (Below.refl w.heap.size w).alloc (Nat.le_refl _) (.cells #[.slice none 0 0] 26)
  have hy0 := Lib.hid (h.below (hb0.mono hB))
  go_enter Try.func23, Try.ntmps23
  go_upto_region 1 with fail
  obtain ⟨w1, hw1⟩ : ∃ w1, w1 = w.alloc (.cells #[.slice none 0 0] 26) := ⟨_, rfl⟩
  rw [← hw1] at hr0 hb0 hy0 ⊢
  clear hw1
  have hz1 := hr0.out.here
  go_wp2_with fail
  refine (DrawSequenceOf_any B v n _ hy0.out (by omega)).mono ?_
  rintro e w3 ⟨v3, xs, rfl, il3, hb3⟩
  obtain ⟨r3, f3⟩ := hr0.out.later hb3
  have hw3 := hb0.trans (hb3.mono (by omega))
  have Hw := Lib.hid (hw3.setCell (p := ⟨w.heap.size, 0, none⟩) (Nat.le_refl _) v3)
  have Hi := Lib.hid (Il.chg il3 (Chg.setC (lo := w.heap.size) (hi := w.heap.size + 1) (p := ⟨w.heap.size, 0, none⟩) ⟨Nat.le_refl _, Nat.lt_succ_self _⟩ v3) (by omega)).1
  have hfin := (Rz.set ⟨r3, f3⟩ v3).1
  obtain ⟨A3, n3, c3, e3, _⟩ := il3.1
  subst e3
  clear hw3 il3 hr0 hb3
  go_wp2_with fail
  refine bodyPost_ret (v := .agg #[.slice A3 n3 c3]) (by simp [results, Try.results23, go_sem, hfin]) rfl ?_
  first | exact ⟨_, _, rfl, Hi.out, Hw.out⟩ | exact ⟨_, rfl, ⟨_, Hi.out⟩, Hw.out⟩ | exact ⟨_, rfl, _, Hi.out, Hw.out⟩
set_option maxHeartbeats 1600000 in
theorem DrawLongSequence_any (B : Nat) (v : Value) (n : Nat) (w : World) (h : IsY w B v n) (hB : B ≤ w.heap.size) :
    Calls Try.prog 16 #[v] w fun e w' => ∃ v' xs m, e = .returned (.tuple #[.agg #[v'], .int .i64 m]) ∧ Is w' w'.heap.size v' xs ∧ Below w.heap.size w w' ∧ -1 ≤ m ∧ m ≤ 401 := by
  have hr0 := Lib.hid (Rz.new w (.slice none 0 0) 26)
  have hb0 := (Below.refl w.heap.size w).alloc (Nat.le_refl _) (.cells #[.slice none 0 0] 26)
  have hy0 := Lib.hid (h.below (hb0.mono hB))
  go_enter Try.func16, Try.ntmps16
  go_upto_region 1 with fail
  obtain ⟨w1, hw1⟩ : ∃ w1, w1 = w.alloc (.cells #[.slice none 0 0] 26) := ⟨_, rfl⟩
  rw [← hw1] at hr0 hb0 hy0 ⊢
  clear hw1
  have hz1 := hr0.out.here
  go_wp2_with fail
  refine (l01From_any B v n _ hy0.out (by omega)).mono ?_
  rintro e w2 ⟨rfl, hs2, hb2⟩
  have hr2 := Lib.hid (hr0.out.later hb2)
  have hw2 := hb0.trans (hb2.mono (by omega))
  have hz2 := hb2.size
  have hs2b := hs2.here
  clear hr0 hb0 hb2
  go_wp2_with fail
  refine (l03Spoil_any B w1.heap.size _ hs2).mono ?_
  rintro e w3 ⟨v3, xs, rfl, il3, hs3, hc3⟩
  have hr3 := Lib.hid (hr2.out.chg hc3 (.inl hz1))
  have hw3 := Lib.hid (hw2.trans (hc3.below (by omega) (.inl (by omega))))
  have hz3 := hc3.size
  have Il3 := Lib.hid il3
  obtain ⟨A3, n3, c3, e3, _⟩ := il3.1
  subst e3
  clear hc3 hr2 hw2 il3
  go_wp2_with fail
  refine (l01Next_any B w1.heap.size 6 _ hs3 (by omega)).mono ?_
  rintro e w4 ⟨r4, rfl, hr4, hs4, hc4⟩
  have b4 := hr4.1; have b4' := hr4.2.1 (by omega)
  go_wp2_with fail
  refine (l01Next_any B w1.heap.size 20 _ hs4 (by omega)).mono ?_
  rintro e w5 ⟨r5, rfl, hr5, hs5, hc5⟩
  have b5 := hr5.1; have b5' := hr5.2.1 (by omega)
  go_wp2_with fail
  refine (l01Pick_any B w1.heap.size w5.heap.size 6 [r4, r5, 400, 401, -1, 390] _ (Src.al hs5 _) (by omega) (by omega) (lit_own hs5.here _ 6 rfl (by omega))).mono ?_
  rintro e w6 ⟨r6, rfl, hr6, hs6, hc6⟩
  have b6 : -1 ≤ r6 ∧ r6 ≤ 401 := by simp at hr6; omega
  have c36 := ((hc4.trans hc5).trans (Chg.al _ _)).trans hc6
  have hr6z := hr3.out.chg c36 (.inl (by omega))
  have Il6 := Il.chg Il3.out c36 (by omega)
  have hw6 := hw3.out.trans (c36.below (by omega) (.inl (by omega)))
  have Hw := Lib.hid (hw6.setCell (p := ⟨w.heap.size, 0, none⟩) (Nat.le_refl _) (.slice A3 n3 c3))
  have Hi := Lib.hid (Il.chg Il6 (Chg.setC (lo := w.heap.size) (hi := w.heap.size + 1) (p := ⟨w.heap.size, 0, none⟩) ⟨Nat.le_refl _, Nat.lt_succ_self _⟩ (.slice A3 n3 c3)) (by omega)).1
  obtain ⟨r6c, r6f⟩ := hr6z
  have hfin := (Rz.set ⟨r6c, r6f⟩ (.slice A3 n3 c3)).1
  clear hr4 hr5 hr6 hs3 hs4 hs5 hs6 hc4 hc5 hc6 c36 Il6 hw6 hr3 hw3 Il3
  go_wp2_with fail
  refine bodyPost_ret (v := .tuple #[.agg #[.slice A3 n3 c3], .int .i64 r6]) (by simp [results, Try.results16, go_sem, hfin]) rfl ?_
  first | exact ⟨_, _, _, rfl, Hi.out, Hw.out, b6⟩ | exact ⟨_, _, rfl, ⟨_, Hi.out⟩, Hw.out, b6⟩ | exact ⟨_, _, rfl, _, Hi.out, Hw.out, b6⟩ | exact ⟨_, _, rfl, ⟨_, Hi.out, Hw.out⟩, b6⟩
end WF
end Go.Proofs.Ytcnoaclijhcckaa
