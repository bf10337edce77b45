/-
  WALKS, CHAPTER 3: the text of a branch by the reference.
-/
import Derived.Test.YtfginjifplcedaaDoorWlkW2
import Derived.Test.YtfginjifplcedaaDoorPlX
import Derived.Test.YtfginjifplcedaaDoorWlkC2
namespace Go.Proofs.YtfginjifplcedaaDoor
open Go.RowKit
set_option linter.unusedVariables false
namespace WW
open K Pl WA WC
theorem l01Dec_int (z : Int) (h0 : 0 ≤ z) (h1 : z ≤ 1000000000000000) (w : World) : Calls Tryd.prog 18 #[.int .i64 z] w fun e w' => e = .returned (.string (S (decI z))) ∧ Below w.heap.size w w' := by
  obtain ⟨n, rfl⟩ := Int.eq_ofNat_of_zero_le h0
  rw [decI_nat]
  exact l01Dec_any n w (by omega)
theorem decI_size (z : Int) (h1 : z ≤ 2000) : (S (decI z)).size ≤ 9 := by
  rw [S_size]; exact dec_len_le _ (by omega)
set_option maxHeartbeats 1600000 in
theorem l03Text_any (B : Nat) (v : Value) (xs : List Int) (w : World) (h : Is w B v xs) (hB : B ≤ w.heap.size) (h0 : 0 < xs.length) (hn : xs.length ≤ 1000) (hr : ∀ i, i < xs.length → 0 ≤ gx xs i ∧ gx xs i ≤ 2000) :
    Calls Tryd.prog 11 #[.agg #[v]] w fun e w' => e = .returned (.string (S (txB xs))) ∧ Below w.heap.size w w' := by
  have Hh := Lib.hid h
  have Hr := Lib.hid hr
  obtain ⟨A, n, c, rfl, hnc, hcm, hrd⟩ := h
  have Hlen := Lib.hid hrd.len
  rw [Hlen.out] at h0 hn
  unfold maxLen at hcm
  obtain ⟨ad, rfl, hab, hc⟩ := hrd.pos h0
  have hc0 : ∀ o, (w.alloc o).cell? ad = some (.int .i64 (gx xs 0)) := fun o => (World.cell?_alloc_lt w o _ (by omega)).trans (by have := hc 0 (by omega); simpa [Addr.add] using this)
  have Hc := Lib.hid hc
  have hz0 := decI_size (gx xs 0) (by have := hr 0 (by rw [Hlen.out]; omega); omega)
  have hg0 := hr 0 (by rw [Hlen.out]; omega)
  have hcb : ∀ t, (w.alloc (.cells #[.slice (some ad) n c] t)).cell? ⟨w.heap.size, 0, none⟩ = some (.slice (some ad) n c) := fun t => by simp [go_sem]
  have hb1 : ∀ o, Below w.heap.size w (w.alloc o) := fun o => (Below.refl _ _).alloc (Nat.le_refl _) o
  have Hall := Lib.hid (txL_all xs)
  have Hl1 := Lib.hid (show ({ data := #[40] } : ByteArray) ++ S (decI (gx xs 0)) = S (txL xs 1) by rw [txL_one]; exact S_append [40] _)
  clear hrd hc hr
  have hi0 : (0 : Int) < (n : Int) := by omega
  go_enter Tryd.func11, Tryd.ntmps11
  go_wp2_with fail
  refine (l01Dec_int _ hg0.1 (by omega) _).mono ?_
  rintro e w1 ⟨rfl, hb⟩
  have hcb1 : w1.cell? ⟨w.heap.size, 0, none⟩ = some (.slice (some ad) n c) := (hb.cell (p := ⟨w.heap.size, 0, none⟩) (by simp)).trans (hcb _)
  have hbe1 : Below w.heap.size w w1 := (hb1 _).trans (hb.mono (by simp))
  have hs1 : w.heap.size + 1 ≤ w1.heap.size := by have := hb.size; simpa using this
  clear hb hc0 hcb hb1
  go_wp2
  rw [Hl1.out]
  go_loopw [3, 4] (fun u i wr => ∃ k : Nat, 1 ≤ k ∧ k ≤ n ∧ i = .int .i64 k ∧ u = .string (S (txL xs k)) ∧ Below w.heap.size w wr ∧ Below w1.heap.size w1 wr) (fun _ i _ => n - (intOf i).toNat)
  case atStart => exact ⟨1, by omega, by omega, rfl, rfl, hbe1, Below.refl _ _⟩
  case round =>
    obtain ⟨k, hk1, hk, rfl, rfl, hbe, hbe2⟩ := hrel
    have hcbr : wr.cell? ⟨w.heap.size, 0, none⟩ = some (.slice (some ad) n c) := (hbe2.cell (p := ⟨w.heap.size, 0, none⟩) (by show w.heap.size < w1.heap.size; omega)).trans hcb1
    have hsz : (S (txL xs k)).size ≤ 20000 := by
      rw [S_size]; have := txL_len xs k (by rw [Hlen.out]; exact hk) Hr.out hk1; omega
    by_cases hlt : k < n
    · have hck : wr.cell? (ad.add k) = some (.int .i64 (gx xs k)) := (hbe.cell (by rw [block_of_add]; omega)).trans (Hc.out k hlt)
      have hgk := Hr.out k (by rw [Hlen.out]; exact hlt)
      have hzk := decI_size (gx xs k) (by omega)
      have hi1 : (0 : Int) ≤ (k : Int) ∧ (k : Int) < (n : Int) := by omega
      have hst := txL_step xs k hk1 (by rw [Hlen.out]; exact hlt)
      have hbs := hbe.size
      have hbs2 := hbe2.size
      by_cases hk2 : k = 1
      · have e1 : ((k : Int) == 1) = true := beqT (by omega)
        have Hst := Lib.hid (show (S (txL xs k) ++ ({ data := #[59] } : ByteArray)) ++ S (decI (gx xs k)) = S (txL xs (k + 1)) by
          rw [hst, if_pos hk2]
          have e : ({ data := #[59] } : ByteArray) = S [59] := rfl
          rw [e, S_append, S_append]; simp)
        clear hst hk2
        go_wp2_with fail
        refine (l01Dec_int _ hgk.1 (by omega) _).mono ?_
        rintro e w2 ⟨rfl, hb⟩
        have hbe3 := hbe.trans (hb.mono hbs)
        have hbe4 := hbe2.trans (hb.mono hbs2)
        clear hb
        go_wp2
        rw [Hst.out]
        go_roundw
        case rel => exact ⟨k + 1, by omega, by omega, by go_num, rfl, hbe3, hbe4⟩
        case measure => simp [intOf]; omega
      · have e1 : ((k : Int) == 1) = false := beqF (by omega)
        have Hst := Lib.hid (show (S (txL xs k) ++ ({ data := #[44] } : ByteArray)) ++ S (decI (gx xs k)) = S (txL xs (k + 1)) by
          rw [hst, if_neg hk2]
          have e : ({ data := #[44] } : ByteArray) = S [44] := rfl
          rw [e, S_append, S_append]; simp)
        clear hst hk2
        go_wp2_with fail
        refine (l01Dec_int _ hgk.1 (by omega) _).mono ?_
        rintro e w2 ⟨rfl, hb⟩
        have hbe3 := hbe.trans (hb.mono hbs)
        have hbe4 := hbe2.trans (hb.mono hbs2)
        clear hb
        go_wp2
        rw [Hst.out]
        go_roundw
        case rel => exact ⟨k + 1, by omega, by omega, by go_num, rfl, hbe3, hbe4⟩
        case measure => simp [intOf]; omega
    · have Hst := Lib.hid (show S (txL xs k) ++ ({ data := #[41] } : ByteArray) = S (txB xs) by
        have e : ({ data := #[41] } : ByteArray) = S [41] := rfl
        have hk2 : k = xs.length := by rw [Hlen.out]; omega
        rw [Hall.out, e, S_append, hk2])
      go_wp2
      go_ret
      exact ⟨ret_s Hst.out, hbe⟩
end WW
end Go.Proofs.YtfginjifplcedaaDoor
