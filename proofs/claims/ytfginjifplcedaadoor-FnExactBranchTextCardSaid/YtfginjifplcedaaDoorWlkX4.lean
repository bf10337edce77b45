/-
  WALKS, CHAPTER 3: the text of a branch by the program.
-/
import Derived.Test.YtfginjifplcedaaDoorKitD
import Derived.Test.YtfginjifplcedaaDoorWlkW4
import Derived.Lib.Join
namespace Go.Proofs.YtfginjifplcedaaDoor
open Go.RowKit
set_option linter.unusedVariables false
namespace WX
open K Pl WA WW WC
theorem jn_tail (c : UInt8) (w : List UInt8) (r : List (List UInt8)) : jn c (w :: r) = w ++ Lib.joinTail [c] r := by
  induction r generalizing w with
  | nil => simp [jn, Lib.joinTail]
  | cons v r ih =>
    show w ++ c :: jn c (v :: r) = _
    rw [ih v]; simp [Lib.joinTail]
theorem jn_join (c : UInt8) (ws : List (List UInt8)) : Lib.join ws [c] = jn c ws := by
  cases ws with
  | nil => rfl
  | cons w r => rw [Lib.join_cons, jn_tail]
theorem jn_len (c : UInt8) : ∀ (xs : List Int), (∀ z ∈ xs, z ≤ 2000) → (jn c (xs.map decI)).length ≤ 10 * xs.length
  | [], _ => by simp [jn]
  | [z], h => by
    have := dec_len_le z.toNat (by have := h z (by simp); omega)
    show (dec z.toNat).length ≤ _; simp; omega
  | z :: y :: r, h => by
    have := dec_len_le z.toNat (by have := h z (by simp); omega)
    have := jn_len c (y :: r) (fun x hx => h x (by simp at hx ⊢; exact .inr hx))
    show (dec z.toNat ++ c :: jn c ((y :: r).map decI)).length ≤ _
    simp at this ⊢; omega
theorem Join_any (w : World) (lo : Nat) (v : Value) (ss : List (List UInt8)) (sp : UInt8) (sep : ByteArray) (hsep : sep = S [sp]) (hown : w.ownsRow lo 9 1 v ss.length (ss.map sv)) (h0 : 0 < ss.length) (hl : ss.length ≤ 1000000) (hj : (jn sp ss).length ≤ 1000000000) :
    Calls Tryd.prog 27 #[v, .string sep] w fun e w' => e = .returned (.string (S (jn sp ss))) ∧ Below w.heap.size w w' := by
  obtain ⟨g, c, rfl⟩ := Go.Joins.ownsRow_form hown h0
  have hcap : ss.length ≤ c := by
    obtain ⟨_, _, e0, q1, _⟩ := own_shape hown
    simp only [Value.slice.injEq] at e0
    obtain ⟨_, _, e1⟩ := e0
    subst e1; exact q1
  have hcell : ∀ j, j < ss.length → w.cell? ⟨g, j, none⟩ = some (.string (S (gs ss j))) := fun j hj => by rw [hown.cellAt j (by omega)]; exact map_sv ss j hj
  have hgb : g < w.heap.size := World.block_lt_of_cell? w ⟨g, 0, none⟩ (hcell 0 h0)
  have hm : (ss.map S).map (fun x : ByteArray => x.data.toList) = ss := by
    rw [List.map_map]
    conv => rhs; rw [← List.map_id ss]
    exact List.map_congr_left fun l _ => L_S l
  have hsl : sep.data.toList = [sp] := by rw [hsep]; rfl
  have J := Tryd.strings_Join g 0 c (ss.map S) sep w (fun j x hx => by
    rw [List.getElem?_map] at hx
    rcases hq : ss[j]? with _ | l
    · rw [hq] at hx; cases hx
    · rw [hq] at hx
      have hjl := (List.getElem?_eq_some_iff.1 hq).1
      have e : gs ss j = l := by rw [gs_eq ss j hjl]; exact (List.getElem?_eq_some_iff.1 hq).2
      simp at hx; subst hx
      rw [Nat.zero_add, hcell j hjl, e]) hgb (by simp; omega) (by simpa using hcap) (by rw [hm, hsl, jn_join]; omega)
  rw [hm, hsl, jn_join, List.length_map] at J
  exact J
set_option maxHeartbeats 1600000 in
theorem joinedNumbers_any (B : Nat) (v : Value) (xs : List Int) (sp : UInt8) (sep : ByteArray) (hsep : sep = S [sp]) (w : World) (h : Is w B v xs) (hB : B ≤ w.heap.size) (ht : Tab w) (h0 : 0 < xs.length) (hn : xs.length ≤ 1000) (hr : ∀ i, i < xs.length → 0 ≤ gx xs i ∧ gx xs i ≤ 2000) :
    Calls Tryd.prog 24 #[v, .string sep] w fun e w' => e = .returned (.string (S (jn sp (xs.map decI)))) ∧ Below w.heap.size w w' := by
  obtain ⟨A, n, c, rfl, hnc, hcm, hrd⟩ := h
  have Hlen := Lib.hid hrd.len
  rw [Hlen.out] at h0 hn
  unfold maxLen at hcm
  obtain ⟨ad, rfl, hab, hc⟩ := hrd.pos h0
  have Hc := Lib.hid hc
  have Hr := Lib.hid hr
  have Hsep := Lib.hid hsep
  have hown0 : (w.alloc (.cells #[] 9)).ownsRow w.heap.size 9 1 (.slice (some ⟨w.heap.size, 0, none⟩) 0 0) ([] : List (List UInt8)).length (([] : List (List UInt8)).map sv) := World.ownsRow_lit w #[] 0 (Nat.le_refl _) (by decide) rfl
  have hbe0 : Below w.heap.size w (w.alloc (.cells #[] 9)) := (Below.refl _ _).alloc (Nat.le_refl _) _
  clear hrd hc hr hsep
  go_enter Tryd.func24, Tryd.ntmps24
  go_wp2
  go_loopw [5, 11] (fun v i wr => ∃ k : Nat, k ≤ n ∧ i = .int .i64 k ∧ Hid (wr.ownsRow w.heap.size 9 1 v ((xs.take k).map decI).length (((xs.take k).map decI).map sv)) ∧ Below w.heap.size w wr) (fun _ i _ => n - (intOf i).toNat)
  case atStart => exact ⟨0, Nat.zero_le _, rfl, Lib.hid hown0, hbe0⟩
  case round =>
    clear hown0 hbe0
    obtain ⟨k, hk, rfl, hown, hbe⟩ := hrel
    by_cases hlt : k < n
    · have hck : wr.cell? (ad.add k) = some (.int .i64 (gx xs k)) := (hbe.cell (by rw [block_of_add]; omega)).trans (Hc.out k hlt)
      have hgk := Hr.out k (by rw [Hlen.out]; exact hlt)
      have hi1 : (0 : Int) ≤ (k : Int) ∧ (k : Int) < (n : Int) := by omega
      have Hst := Lib.hid (show (xs.take (k + 1)).map decI = (xs.take k).map decI ++ [sgnI (gx xs k)] by
        rw [take_snoc xs k (by rw [Hlen.out]; exact hlt), sgnI_pos (by omega)]; simp)
      have hlk : ((xs.take k).map decI).length < 1000000 := by simp; omega
      have htr := ht.later hbe
      have hbs := hbe.size
      generalize hss : (xs.take k).map decI = ss at *
      clear hss
      go_wp2_with fail
      refine (decimal_any _ (by omega) (by omega) _ htr).mono ?_
      rintro e w1 ⟨rfl, hb⟩
      have hbe1 := hbe.trans (hb.mono hbs)
      have hown1 := own_later hown.out hb
      have Hy := Lib.hid (L_S (sgnI (gx xs k)))
      generalize S (sgnI (gx xs k)) = y at *
      clear hown hbe hb htr hck
      go_wp2_with (at_builtin; refine wp_append_str rfl _ _ rfl w.heap.size _ ss rfl (hown1.alloc _) w1.heap.size y 1 rfl (by simp) (by omega) (by have := hbe1.size; simp; omega) ?_)
      intro v' w2 hown2 hgrow
      have hbe2 := below_append hbe1 hbe1.size hown1 (Nat.le_refl _) hgrow
      rw [Hy.out] at hown2
      have Hown2 := Lib.hid (show w2.ownsRow w.heap.size 9 1 v' ((xs.take (k + 1)).map decI).length (((xs.take (k + 1)).map decI).map sv) by rw [Hst.out]; simpa using hown2)
      clear hown2 hgrow hown1 hbe1
      go_wp2
      go_roundw
      case rel => exact ⟨k + 1, by omega, by go_num, Hown2, hbe2⟩
      case measure => simp [intOf]; omega
    · have Hall := Lib.hid (show (xs.take k).map decI = xs.map decI by rw [List.take_of_length_le (by rw [Hlen.out]; omega)])
      rw [Hall.out] at hown
      have hbs := hbe.size
      have HJ := Lib.hid (Join_any wr w.heap.size u5 (xs.map decI) sp sep Hsep.out hown.out (by simp [Hlen.out]; omega) (by simp [Hlen.out]; omega) (by
        have := jn_len sp xs (fun z hz => by
          obtain ⟨i, hi, rfl⟩ := List.getElem_of_mem hz
          have := Hr.out i hi
          rw [gx_eq xs i hi] at this; omega)
        rw [Hlen.out] at this; omega))
      go_wp2_with fail
      refine (HJ.out).mono ?_
      rintro e w2 ⟨rfl, hb⟩
      have hbe2 := hbe.trans (hb.mono hbs)
      clear hb
      go_wp2_with fail
      go_ret
      exact ⟨rfl, hbe2⟩
/-- The list without its head. -/
theorem is_tailX {w : World} {B n c : Nat} {ad : Addr} {xs : List Int} (h : Is w B (.slice (some ad) n c) xs) (h1 : 1 ≤ n) (hc : n ≤ c) (hm : c ≤ maxLen) : Is w B (.slice (some ⟨ad.block, ad.off + 1, none⟩) (n - 1) (c - 1)) (xs.drop 1) := by
  have he : ad.add 1 = ⟨ad.block, ad.off + 1, none⟩ := by simp [Addr.add]
  rw [← he]
  obtain ⟨A, n', c', e, _, _, hrd⟩ := h
  cases e
  have hl := hrd.len
  obtain ⟨ad', e, hab, hcs⟩ := hrd.pos (by omega)
  cases e
  refine ⟨_, _, _, rfl, by omega, by omega, ⟨by simp; omega, fun _ => ⟨_, rfl, by rw [block_of_add]; exact hab, fun j hj => ?_⟩⟩⟩
  have := hcs (1 + j) (by omega)
  rw [gx_drop, ← this]
  by_cases hj0 : j = 0
  · subst hj0; simp [Addr.add]
  · simp [Addr.add, hj0, Nat.add_assoc]
def St (r : List UInt8 × Int) (w : World) (e : Ending) (w' : World) : Prop := e = .returned (.tuple #[.string (S r.1), .int .i64 r.2]) ∧ Below w.heap.size w w'
def btB (xs : List Int) : List UInt8 × Int := if isBr xs then (txB xs, 0) else ([], 1)
theorem decI_size2 (z : Int) (h1 : z ≤ 2000) : (S (sgnI z)).size ≤ 17 ∨ z < 0 := by
  by_cases h : z < 0
  · exact .inr h
  · left; rw [S_size, sgnI_pos h]; have := dec_len_le z.toNat (by omega); show (dec z.toNat).length ≤ 17; omega
set_option maxHeartbeats 1600000 in
theorem branchText_any (B : Nat) (v : Value) (xs : List Int) (w : World) (h : Is w B v xs) (hB : B ≤ w.heap.size) (ht : Tab w) (h0 : 0 < xs.length) (hn : xs.length ≤ 1000) (hr : ∀ i, i < xs.length → 0 ≤ gx xs i ∧ gx xs i ≤ 2000) :
    Calls Tryd.prog 14 #[.agg #[v]] w fun e w' => e = .returned (.string (S (txB xs))) ∧ Below w.heap.size w w' := by
  have Hh := Lib.hid h
  have Hr := Lib.hid hr
  obtain ⟨A, n, c, rfl, hnc, hcm, hrd⟩ := h
  have Hcm := Lib.hid hcm
  have Hlen := Lib.hid hrd.len
  rw [Hlen.out] at h0 hn
  unfold maxLen at hcm
  obtain ⟨ad, rfl, hab, hc⟩ := hrd.pos h0
  have hc0 : ∀ o, (w.alloc o).cell? ad = some (.int .i64 (gx xs 0)) := fun o => (World.cell?_alloc_lt w o _ (by omega)).trans (by have := hc 0 (by omega); simpa [Addr.add] using this)
  have hz0 := decI_size2 (gx xs 0) (by have := hr 0 (by rw [Hlen.out]; omega); omega)
  have hg0 := hr 0 (by rw [Hlen.out]; omega)
  have hz1 : (S (sgnI (gx xs 0))).size ≤ 17 := by omega
  have hcb : ∀ t, (w.alloc (.cells #[.slice (some ad) n c] t)).cell? ⟨w.heap.size, 0, none⟩ = some (.slice (some ad) n c) := fun t => by simp [go_sem]
  have hb1 : ∀ o, Below w.heap.size w (w.alloc o) := fun o => (Below.refl _ _).alloc (Nat.le_refl _) o
  have ht0 := fun o => ht.al o
  have hi0 : (0 : Int) < (n : Int) := by omega
  clear hrd hc hr hz0 ht
  go_enter Tryd.func14, Tryd.ntmps14
  go_wp2_with fail
  refine (decimal_any _ (by omega) (by omega) _ (ht0 _)).mono ?_
  rintro e w1 ⟨rfl, hb⟩
  have hcb1 : w1.cell? ⟨w.heap.size, 0, none⟩ = some (.slice (some ad) n c) := (hb.cell (p := ⟨w.heap.size, 0, none⟩) (by simp)).trans (hcb _)
  have hbe1 : Below w.heap.size w w1 := (hb1 _).trans (hb.mono (by simp))
  have hs1 : w.heap.size + 1 ≤ w1.heap.size := by have := hb.size; simpa using this
  have ht1 := (ht0 _).later hb
  clear hb hc0 hcb hb1 ht0
  by_cases hn1 : 1 < n
  · have e1 : decide ((1 : Int) < (n : Int)) = true := decide_eq_true (by omega)
    have hi1 : (1 : Int) < (n : Int) := by omega
    have HT := Lib.hid ((is_tailX Hh.out (by omega) hnc Hcm.out).below (hbe1.mono hB))
    have Hlt := Lib.hid (show (xs.drop 1).length = n - 1 by simp [Hlen.out])
    have Hgt := Lib.hid (show ∀ i, i < (xs.drop 1).length → 0 ≤ gx (xs.drop 1) i ∧ gx (xs.drop 1) i ≤ 2000 from fun i hi => by
      rw [gx_drop]; rw [Hlt.out] at hi; exact Hr.out (1 + i) (by rw [Hlen.out]; omega))
    have hjl := jn_len 44 (xs.drop 1) (fun z hz => by
      obtain ⟨i, hi, rfl⟩ := List.getElem_of_mem hz
      have := Hgt.out i hi
      rw [gx_eq _ i hi] at this; omega)
    rw [Hlt.out] at hjl
    have hzj : (S (jn 44 ((xs.drop 1).map decI))).size ≤ 20000 := by rw [S_size]; omega
    have HR := Lib.hid (show S (txB xs) = ((({ data := #[40] } : ByteArray) ++ S (sgnI (gx xs 0))) ++ (({ data := #[59] } : ByteArray) ++ S (jn 44 ((xs.drop 1).map decI)))) ++ ({ data := #[41] } : ByteArray) by
      have q1 : ({ data := #[40] } : ByteArray) = S [40] := rfl
      have q2 : ({ data := #[59] } : ByteArray) = S [59] := rfl
      have q3 : ({ data := #[41] } : ByteArray) = S [41] := rfl
      have q4 : xs.drop 1 ≠ [] := by intro e; have := Hlt.out; rw [e] at this; simp at this; omega
      rw [q1, q2, q3, S_append, S_append, S_append, S_append, sgnI_pos (by omega)]
      unfold txB tlB; rw [if_neg q4]; simp)
    generalize hJ : S (jn 44 ((xs.drop 1).map decI)) = J at *
    have HJ := Lib.hid hJ
    clear hn1 hjl hJ
    go_wp2_with fail
    refine (joinedNumbers_any _ _ (xs.drop 1) 44 _ rfl _ HT.out (by omega) ht1 (by rw [Hlt.out]; omega) (by rw [Hlt.out]; omega) Hgt.out).mono ?_
    rintro e w2 ⟨rfl, hb⟩
    rw [HJ.out]
    have hbe2 := hbe1.trans (hb.mono (by omega))
    clear hb hcb1 hbe1
    go_wp2_with fail
    go_ret
    exact ⟨ret_s (by rw [HR.out]), hbe2⟩
  · have e1 : decide ((1 : Int) < (n : Int)) = false := decide_eq_false (by omega)
    have HR := Lib.hid (show S (txB xs) = (({ data := #[40] } : ByteArray) ++ S (sgnI (gx xs 0))) ++ ({ data := #[41] } : ByteArray) by
      have q1 : ({ data := #[40] } : ByteArray) = S [40] := rfl
      have q3 : ({ data := #[41] } : ByteArray) = S [41] := rfl
      have q4 : xs.drop 1 = [] := by rw [List.drop_eq_nil_iff, Hlen.out]; omega
      rw [q1, q3, S_append, S_append, sgnI_pos (by omega)]
      unfold txB tlB; rw [if_pos q4]; simp)
    clear hn1
    go_wp2_with fail
    go_ret
    exact ⟨ret_s (by rw [HR.out]), hbe1⟩
theorem isBr_gx {xs : List Int} (h : isBr xs = true) : 0 < xs.length ∧ xs.length ≤ 1000 ∧ ∀ i, i < xs.length → 0 ≤ gx xs i ∧ gx xs i ≤ 2000 :=
  ⟨(isBr_true.1 h).1, by have := isBr_len_le h; omega, fun i hi => by have := isBr_range h i hi; omega⟩
theorem BranchText_any (B : Nat) (v : Value) (xs : List Int) (w : World) (h : Is w B v xs) (hB : B ≤ w.heap.size) (ht : Tab w) : Calls Tryd.prog 7 #[.agg #[v]] w (St (btB xs) w) := by
  have Hh := Lib.hid h
  have hcb : ∀ o', (w.alloc (.cells #[v] o')).cell? ⟨w.heap.size, 0, none⟩ = some v := fun t => by simp [go_sem]
  have hb1 : ∀ o, Below w.heap.size w (w.alloc o) := fun o => (Below.refl _ _).alloc (Nat.le_refl _) o
  have HI := Lib.hid (fun o => h.below ((hb1 o).mono hB))
  have ht0 := fun o => ht.al o
  obtain ⟨A, n, c, rfl, _, _, _⟩ := h
  cases hF : isBr xs
  · have Hr := Lib.hid (show btB xs = ([], 1) by unfold btB; rw [hF]; rfl)
    clear ht
    go_enter Tryd.func7, Tryd.ntmps7
    go_wp2_with fail
    refine (IsBranch_any B _ xs _ (HI.out _) (by simp; omega)).mono ?_
    rintro e w1 ⟨rfl, hb⟩
    rw [hF]
    have hbw : Below w.heap.size w w1 := (hb1 _).trans (hb.mono (by simp))
    clear hb hcb hb1 ht0
    go_wp2_with fail
    go_ret2
    exact ⟨by rw [Hr.out]; rfl, hbw⟩
  · have Hr := Lib.hid (show btB xs = (txB xs, 0) by unfold btB; rw [hF]; rfl)
    have Hg := Lib.hid (isBr_gx hF)
    clear ht
    go_enter Tryd.func7, Tryd.ntmps7
    go_wp2_with fail
    refine (IsBranch_any B _ xs _ (HI.out _) (by simp; omega)).mono ?_
    rintro e w1 ⟨rfl, hb⟩
    rw [hF]
    have hbw : Below w.heap.size w w1 := (hb1 _).trans (hb.mono (by simp))
    have k0 := (hb.cell (p := ⟨w.heap.size, 0, none⟩) (by simp)).trans (hcb _)
    have ht1 := (ht0 _).later hb
    have hsz := hbw.size
    clear hb hcb hb1 ht0
    go_wp2_with fail
    refine (branchText_any B _ xs _ (Hh.out.below (hbw.mono hB)) (by omega) ht1 Hg.out.1 Hg.out.2.1 Hg.out.2.2).mono ?_
    rintro e w2 ⟨rfl, hb2⟩
    have hbw2 := hbw.trans (hb2.mono hsz)
    clear hb2
    go_wp2_with fail
    go_ret2
    exact ⟨by rw [Hr.out]; rfl, hbw2⟩
theorem sBranchText_any (B : Nat) (v : Value) (xs : List Int) (w : World) (h : Is w B v xs) (hB : B ≤ w.heap.size) : Calls Tryd.prog 5 #[.agg #[v]] w (St (btB xs) w) := by
  have Hh := Lib.hid h
  have hcb : ∀ o', (w.alloc (.cells #[v] o')).cell? ⟨w.heap.size, 0, none⟩ = some v := fun t => by simp [go_sem]
  have hb1 : ∀ o, Below w.heap.size w (w.alloc o) := fun o => (Below.refl _ _).alloc (Nat.le_refl _) o
  have HI := Lib.hid (fun o => h.below ((hb1 o).mono hB))
  obtain ⟨A, n, c, rfl, _, _, _⟩ := h
  cases hF : isBr xs
  · have Hr := Lib.hid (show btB xs = ([], 1) by unfold btB; rw [hF]; rfl)
    go_enter Tryd.func5, Tryd.ntmps5
    go_wp2_with fail
    refine (l03Is_any B _ xs _ (HI.out _) (by simp; omega)).mono ?_
    rintro e w1 ⟨rfl, hb⟩
    rw [hF]
    have hbw : Below w.heap.size w w1 := (hb1 _).trans (hb.mono (by simp))
    clear hb hcb hb1
    go_wp2_with fail
    go_ret2
    exact ⟨by rw [Hr.out]; rfl, hbw⟩
  · have Hr := Lib.hid (show btB xs = (txB xs, 0) by unfold btB; rw [hF]; rfl)
    have Hg := Lib.hid (isBr_gx hF)
    go_enter Tryd.func5, Tryd.ntmps5
    go_wp2_with fail
    refine (l03Is_any B _ xs _ (HI.out _) (by simp; omega)).mono ?_
    rintro e w1 ⟨rfl, hb⟩
    rw [hF]
    have hbw : Below w.heap.size w w1 := (hb1 _).trans (hb.mono (by simp))
    have k0 := (hb.cell (p := ⟨w.heap.size, 0, none⟩) (by simp)).trans (hcb _)
    have hsz := hbw.size
    clear hb hcb hb1
    go_wp2_with fail
    refine (l03Text_any B _ xs _ (Hh.out.below (hbw.mono hB)) (by omega) Hg.out.1 Hg.out.2.1 Hg.out.2.2).mono ?_
    rintro e w2 ⟨rfl, hb2⟩
    have hbw2 := hbw.trans (hb2.mono hsz)
    clear hb2
    go_wp2_with fail
    go_ret2
    exact ⟨by rw [Hr.out]; rfl, hbw2⟩
end WX
end Go.Proofs.YtfginjifplcedaaDoor
