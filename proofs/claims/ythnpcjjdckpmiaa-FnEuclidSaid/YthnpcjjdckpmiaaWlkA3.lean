/-
  WALKS, CHAPTER 1: the values of continued fractions and of negative ones, in the program and in the reference.
-/
import Derived.Test.YthnpcjjdckpmiaaWlkA1
namespace Go.Proofs.Ythnpcjjdckpmiaa
open Go.RowKit
set_option linter.unusedVariables false
namespace WA
open K Pl

/-- What a function of chapter 1 that returns a fraction and a code leaves. -/
def Fr3 (r : Int × Int × Int) (w : World) (e : Ending) (w' : World) : Prop := e = .returned (.tuple #[.agg #[.int .i64 r.1, .int .i64 r.2.1], .int .i64 r.2.2]) ∧ Below w.heap.size w w'

set_option maxHeartbeats 1600000 in
theorem NegativeValue_any (B : Nat) (v : Value) (xs : List Int) (w : World) (h : Is w B v xs) (hB : B ≤ w.heap.size) : Calls Try.prog 16 #[v] w (Fr3 (nv xs) w) := by
  obtain ⟨A, n, c, rfl, hnc, hcm, hrd⟩ := h
  have Hlen := Lib.hid hrd.len
  unfold maxLen at hcm
  by_cases hl : 1 ≤ n ∧ n ≤ 64
  · obtain ⟨hl1, hl2⟩ := hl
    obtain ⟨ad, rfl, hab, hc⟩ := hrd.pos (by omega)
    have hc' : ∀ j, j < n → (w.alloc (.cells #[.int .i64 0, .int .i64 0] 35)).cell? (ad.add j) = some (.int .i64 (gx xs j)) := fun j hj => by
      rw [World.cell?_alloc_lt _ _ _ (by rw [block_of_add]; omega)]; exact hc j hj
    have Hc := Lib.hid hc'
    clear hc hc'
    go_enter Try.func16, Try.ntmps16
    go_wp2
    go_loop [20] (fun i => ∃ k : Nat, k ≤ n ∧ i = .int .i64 k ∧ Hid (∀ j, j < k → inR (gx xs j) 2 1000000000 = true)) (fun i => n - (intOf i).toNat)
    case atStart => exact ⟨0, Nat.zero_le _, rfl, Lib.hid (fun j hj => by omega)⟩
    case round =>
      obtain ⟨k, hk, rfl, hall⟩ := hrel
      by_cases hlt : k < n
      · have hc1 := Hc.out k hlt
        cases hR : inR (gx xs k) 2 1000000000
        · have Hres := Lib.hid (nv_elem k (by rw [Hlen.out]; exact hlt) hR)
          go_wp2_with (go_at_call 32; refine (inRange_any _ _ _ _).mono ?_; rintro e w' ⟨rfl, rfl⟩)
          refine bodyPost_ret (v := .tuple #[.agg #[.int .i64 0, .int .i64 0], .int .i64 2]) (by simp [results, Try.results16, go_sem]) rfl ⟨by rw [Hres.out], ?_⟩
          go_grown
        · have Hall := Lib.hid (show ∀ j, j < k + 1 → inR (gx xs j) 2 1000000000 = true from fun j hj => by
            by_cases e : j = k
            · rw [e]; exact hR
            · exact hall.out j (by omega))
          go_wp2_with (go_at_call 32; refine (inRange_any _ _ _ _).mono ?_; rintro e w' ⟨rfl, rfl⟩)
          go_round
          case rel => exact ⟨k + 1, by omega, by go_num, Hall⟩
          case measure => first | (simp [intOf]; done) | (simp [intOf]; omega)
      · have hkn : k = n := by omega
        subst hkn
        have Hrun := Lib.hid (nv_run (xs := xs) (by rw [Hlen.out]; omega) (by rw [Hlen.out]; exact hall.out))
        have hc1 := Hc.out (k - 1) (by omega)
        have hi1 : 0 ≤ (k : Int) - 1 ∧ (k : Int) - 1 < (k : Int) := by omega
        have hlast := inR_true.1 (hall.out (k - 1) (by omega))
        go_wp2
        go_loop [6, 7, 8] (fun t b i => ∃ (m : Nat) (x y z : Int), m ≤ k - 1 ∧ t = .int .i64 x ∧ b = .int .i64 y ∧ i = .int .i64 z ∧ Hid (z + 1 = m) ∧ 1 ≤ y ∧ y ≤ x ∧ x ≤ 1000000000 ∧ 0 ≤ x ∧ Hid (nv xs = out3 (nvGo (xs.take m).reverse x y))) (fun _ _ i => (intOf i + 1).toNat)
        case atStart =>
          refine ⟨k - 1, _, _, _, Nat.le_refl _, rfl, rfl, rfl, Lib.hid (by omega), by omega, by omega, by omega, by omega, Lib.hid ?_⟩
          have e := Hrun.out
          rw [Hlen.out] at e; exact e
        case round =>
          clear hc1 hi1 hlast
          obtain ⟨m, x, y, z, hm, rfl, rfl, rfl, hz, hy1, hyx, hx, hx0, hgo⟩ := hrel
          by_cases hm0 : 0 < m
          · obtain ⟨j, rfl⟩ : ∃ j, m = j + 1 := ⟨m - 1, by omega⟩
            obtain rfl : z = (j : Int) := by have := hz.out; omega
            have hc1 := Hc.out j (by omega)
            have hi1 : 0 ≤ (j : Int) ∧ (j : Int) < (k : Int) := by omega
            have hq := inR_true.1 (hall.out j (by omega))
            have hb := mul_bd hq.1 hq.2 (show 0 ≤ x by omega) hx (by omega)
            have Hstep := Lib.hid (nvGo_step (xs := xs) j (by rw [Hlen.out]; omega) x y)
            by_cases hbig : 1000000000 < gx xs j * x - y
            · have Hres := Lib.hid (show nv xs = (0, 0, 3) by rw [hgo.out, Hstep.out, if_pos hbig]; rfl)
              go_wp2
              refine bodyPost_ret (v := .tuple #[.agg #[.int .i64 0, .int .i64 0], .int .i64 3]) (by simp [results, Try.results16, go_sem]) rfl ⟨by rw [Hres.out], ?_⟩
              go_grown
            · have Hnew := Lib.hid (show nv xs = out3 (nvGo (xs.take j).reverse (gx xs j * x - y) x) by rw [hgo.out, Hstep.out, if_neg hbig])
              go_wp2
              go_round
              case rel => exact ⟨j, _, _, _, by omega, rfl, rfl, rfl, Lib.hid (by omega), by omega, by omega, by omega, by omega, Hnew⟩
              case measure => first | (simp [intOf]; done) | (simp [intOf]; omega)
          · obtain rfl : m = 0 := by omega
            obtain rfl : z = -1 := by have := hz.out; omega
            have Hres := Lib.hid (show nv xs = (x, y, 0) by rw [hgo.out]; rfl)
            go_wp2
            refine bodyPost_ret (v := .tuple #[.agg #[.int .i64 x, .int .i64 y], .int .i64 0]) (by simp [results, Try.results16, go_sem]) rfl ⟨by rw [Hres.out], ?_⟩
            go_grown
  · have Hres := Lib.hid (nv_len (xs := xs) (by rw [Hlen.out]; exact hl))
    by_cases h1 : n < 1
    · clear hl
      go_enter Try.func16, Try.ntmps16
      go_wp2
      refine bodyPost_ret (v := .tuple #[.agg #[.int .i64 0, .int .i64 0], .int .i64 2]) (by simp [results, Try.results16, go_sem]) rfl ⟨by rw [Hres.out], ?_⟩
      go_grown
    · have h2 : 64 < n := by omega
      clear hl
      go_enter Try.func16, Try.ntmps16
      go_wp2
      refine bodyPost_ret (v := .tuple #[.agg #[.int .i64 0, .int .i64 0], .int .i64 2]) (by simp [results, Try.results16, go_sem]) rfl ⟨by rw [Hres.out], ?_⟩
      go_grown
set_option maxHeartbeats 1600000 in
theorem sNegativeValue_any (B : Nat) (v : Value) (xs : List Int) (w : World) (h : Is w B v xs) (hB : B ≤ w.heap.size) : Calls Try.prog 18 #[v] w (Fr3 (nv xs) w) := by
  obtain ⟨A, n, c, rfl, hnc, hcm, hrd⟩ := h
  have Hlen := Lib.hid hrd.len
  unfold maxLen at hcm
  by_cases hl : 1 ≤ n ∧ n ≤ 64
  · obtain ⟨hl1, hl2⟩ := hl
    obtain ⟨ad, rfl, hab, hc⟩ := hrd.pos (by omega)
    have hc' : ∀ j, j < n → (w.alloc (.cells #[.int .i64 0, .int .i64 0] 35)).cell? (ad.add j) = some (.int .i64 (gx xs j)) := fun j hj => by
      rw [World.cell?_alloc_lt _ _ _ (by rw [block_of_add]; omega)]; exact hc j hj
    have Hc := Lib.hid hc'
    clear hc hc'
    go_enter Try.func18, Try.ntmps18
    go_wp2
    go_loop [4] (fun i => ∃ k : Nat, k ≤ n ∧ i = .int .i64 k ∧ Hid (∀ j, j < k → inR (gx xs j) 2 1000000000 = true)) (fun i => n - (intOf i).toNat)
    case atStart => exact ⟨0, Nat.zero_le _, rfl, Lib.hid (fun j hj => by omega)⟩
    case round =>
      obtain ⟨k, hk, rfl, hall⟩ := hrel
      by_cases hlt : k < n
      · have hc1 := Hc.out k hlt
        cases hR : inR (gx xs k) 2 1000000000
        · have Hres := Lib.hid (nv_elem k (by rw [Hlen.out]; exact hlt) hR)
          go_wp2_with (go_at_call 34; refine (l01In_any _ _ _ _).mono ?_; rintro e w' ⟨rfl, rfl⟩)
          refine bodyPost_ret (v := .tuple #[.agg #[.int .i64 0, .int .i64 0], .int .i64 2]) (by simp [results, Try.results18, go_sem]) rfl ⟨by rw [Hres.out], ?_⟩
          go_grown
        · have Hall := Lib.hid (show ∀ j, j < k + 1 → inR (gx xs j) 2 1000000000 = true from fun j hj => by
            by_cases e : j = k
            · rw [e]; exact hR
            · exact hall.out j (by omega))
          go_wp2_with (go_at_call 34; refine (l01In_any _ _ _ _).mono ?_; rintro e w' ⟨rfl, rfl⟩)
          go_round
          case rel => exact ⟨k + 1, by omega, by go_num, Hall⟩
          case measure => first | (simp [intOf]; done) | (simp [intOf]; omega)
      · have hkn : k = n := by omega
        subst hkn
        have Hrun := Lib.hid (nv_run (xs := xs) (by rw [Hlen.out]; omega) (by rw [Hlen.out]; exact hall.out))
        have hc1 := Hc.out (k - 1) (by omega)
        have hi1 : 0 ≤ (k : Int) - 1 ∧ (k : Int) - 1 < (k : Int) := by omega
        have hlast := inR_true.1 (hall.out (k - 1) (by omega))
        go_wp2
        go_loop [5, 6, 7] (fun t b i => ∃ (m : Nat) (x y z : Int), m ≤ k - 1 ∧ t = .int .i64 x ∧ b = .int .i64 y ∧ i = .int .i64 z ∧ Hid (z + 1 = m) ∧ 1 ≤ y ∧ y ≤ x ∧ x ≤ 1000000000 ∧ 0 ≤ x ∧ Hid (nv xs = out3 (nvGo (xs.take m).reverse x y))) (fun _ _ i => (intOf i + 1).toNat)
        case atStart =>
          refine ⟨k - 1, _, _, _, Nat.le_refl _, rfl, rfl, rfl, Lib.hid (by omega), by omega, by omega, by omega, by omega, Lib.hid ?_⟩
          have e := Hrun.out
          rw [Hlen.out] at e; exact e
        case round =>
          clear hc1 hi1 hlast
          obtain ⟨m, x, y, z, hm, rfl, rfl, rfl, hz, hy1, hyx, hx, hx0, hgo⟩ := hrel
          by_cases hm0 : 0 < m
          · obtain ⟨j, rfl⟩ : ∃ j, m = j + 1 := ⟨m - 1, by omega⟩
            obtain rfl : z = (j : Int) := by have := hz.out; omega
            have hc1 := Hc.out j (by omega)
            have hi1 : 0 ≤ (j : Int) ∧ (j : Int) < (k : Int) := by omega
            have hq := inR_true.1 (hall.out j (by omega))
            have hb := mul_bd hq.1 hq.2 (show 0 ≤ x by omega) hx (by omega)
            have Hstep := Lib.hid (nvGo_step (xs := xs) j (by rw [Hlen.out]; omega) x y)
            by_cases hbig : 1000000000 < gx xs j * x - y
            · have Hres := Lib.hid (show nv xs = (0, 0, 3) by rw [hgo.out, Hstep.out, if_pos hbig]; rfl)
              go_wp2
              refine bodyPost_ret (v := .tuple #[.agg #[.int .i64 0, .int .i64 0], .int .i64 3]) (by simp [results, Try.results18, go_sem]) rfl ⟨by rw [Hres.out], ?_⟩
              go_grown
            · have Hnew := Lib.hid (show nv xs = out3 (nvGo (xs.take j).reverse (gx xs j * x - y) x) by rw [hgo.out, Hstep.out, if_neg hbig])
              go_wp2
              go_round
              case rel => exact ⟨j, _, _, _, by omega, rfl, rfl, rfl, Lib.hid (by omega), by omega, by omega, by omega, by omega, Hnew⟩
              case measure => first | (simp [intOf]; done) | (simp [intOf]; omega)
          · obtain rfl : m = 0 := by omega
            obtain rfl : z = -1 := by have := hz.out; omega
            have Hres := Lib.hid (show nv xs = (x, y, 0) by rw [hgo.out]; rfl)
            go_wp2
            refine bodyPost_ret (v := .tuple #[.agg #[.int .i64 x, .int .i64 y], .int .i64 0]) (by simp [results, Try.results18, go_sem]) rfl ⟨by rw [Hres.out], ?_⟩
            go_grown
  · have Hres := Lib.hid (nv_len (xs := xs) (by rw [Hlen.out]; exact hl))
    by_cases h1 : n < 1
    · clear hl
      go_enter Try.func18, Try.ntmps18
      go_wp2
      refine bodyPost_ret (v := .tuple #[.agg #[.int .i64 0, .int .i64 0], .int .i64 2]) (by simp [results, Try.results18, go_sem]) rfl ⟨by rw [Hres.out], ?_⟩
      go_grown
    · have h2 : 64 < n := by omega
      clear hl
      go_enter Try.func18, Try.ntmps18
      go_wp2
      refine bodyPost_ret (v := .tuple #[.agg #[.int .i64 0, .int .i64 0], .int .i64 2]) (by simp [results, Try.results18, go_sem]) rfl ⟨by rw [Hres.out], ?_⟩
      go_grown
set_option maxHeartbeats 1600000 in
theorem FractionValue_any (B : Nat) (v : Value) (xs : List Int) (w : World) (h : Is w B v xs) (hB : B ≤ w.heap.size) : Calls Try.prog 11 #[v] w (Fr3 (fv xs) w) := by
  obtain ⟨A, n, c, rfl, hnc, hcm, hrd⟩ := h
  have Hlen := Lib.hid hrd.len
  unfold maxLen at hcm
  by_cases hl : 1 ≤ n ∧ n ≤ 64
  · obtain ⟨hl1, hl2⟩ := hl
    obtain ⟨ad, rfl, hab, hc⟩ := hrd.pos (by omega)
    have hc' : ∀ j, j < n → (w.alloc (.cells #[.int .i64 0, .int .i64 0] 35)).cell? (ad.add j) = some (.int .i64 (gx xs j)) := fun j hj => by
      rw [World.cell?_alloc_lt _ _ _ (by rw [block_of_add]; omega)]; exact hc j hj
    have Hc := Lib.hid hc'
    clear hc hc'
    go_enter Try.func11, Try.ntmps11
    go_wp2
    go_loop [20] (fun i => ∃ k : Nat, k ≤ n ∧ i = .int .i64 k ∧ Hid (∀ j, j < k → okQ j (gx xs j) = true)) (fun i => n - (intOf i).toNat)
    case atStart => exact ⟨0, Nat.zero_le _, rfl, Lib.hid (fun j hj => by omega)⟩
    case round =>
      obtain ⟨k, hk, rfl, hall⟩ := hrel
      by_cases hlt : k < n
      · have hc1 := Hc.out k hlt
        cases hR : okQ k (gx xs k)
        · have Hres := Lib.hid (fv_elem k (by rw [Hlen.out]; exact hlt) hR)
          have hd := okQ_no hR
          clear hR
          rcases hd with hI | ⟨hI, hn0⟩ | ⟨hI, hk0, hn0, hn1⟩
          · go_wp2_with (go_at_call 26; refine (isInteger_any _ _).mono ?_; rintro e w' ⟨rfl, rfl⟩)
            refine bodyPost_ret (v := .tuple #[.agg #[.int .i64 0, .int .i64 0], .int .i64 2]) (by simp [results, Try.results11, go_sem]) rfl ⟨by rw [Hres.out], ?_⟩
            go_grown
          · go_wp2_with (go_at_call 26; refine (isInteger_any _ _).mono ?_; rintro e w' ⟨rfl, rfl⟩)
            refine bodyPost_ret (v := .tuple #[.agg #[.int .i64 0, .int .i64 0], .int .i64 2]) (by simp [results, Try.results11, go_sem]) rfl ⟨by rw [Hres.out], ?_⟩
            go_grown
          · go_wp2_with (go_at_call 26; refine (isInteger_any _ _).mono ?_; rintro e w' ⟨rfl, rfl⟩)
            refine bodyPost_ret (v := .tuple #[.agg #[.int .i64 0, .int .i64 0], .int .i64 2]) (by simp [results, Try.results11, go_sem]) rfl ⟨by rw [Hres.out], ?_⟩
            go_grown
        · have Hall := Lib.hid (show ∀ j, j < k + 1 → okQ j (gx xs j) = true from fun j hj => by
            by_cases e : j = k
            · rw [e]; exact hR
            · exact hall.out j (by omega))
          have hd := okQ_yes hR
          clear hR
          rcases hd with ⟨hI, hn0, hk0⟩ | ⟨hI, hn0, hk0, hn1⟩
          · go_wp2_with (go_at_call 26; refine (isInteger_any _ _).mono ?_; rintro e w' ⟨rfl, rfl⟩)
            go_round
            case rel => exact ⟨k + 1, by omega, by go_num, Hall⟩
            case measure => first | (simp [intOf]; done) | (simp [intOf]; omega)
          · go_wp2_with (go_at_call 26; refine (isInteger_any _ _).mono ?_; rintro e w' ⟨rfl, rfl⟩)
            go_round
            case rel => exact ⟨k + 1, by omega, by go_num, Hall⟩
            case measure => first | (simp [intOf]; done) | (simp [intOf]; omega)
      · have hkn : k = n := by omega
        subst hkn
        have Hrun := Lib.hid (fv_run (xs := xs) (by rw [Hlen.out]; omega) (by rw [Hlen.out]; exact hall.out))
        have hc1 := Hc.out (k - 1) (by omega)
        have hi1 : 0 ≤ (k : Int) - 1 ∧ (k : Int) - 1 < (k : Int) := by omega
        have hlast := okQ_bd (hall.out (k - 1) (by omega))
        go_wp2
        go_loop [6, 7, 8] (fun t b i => ∃ (m : Nat) (x y z : Int), m ≤ k - 1 ∧ t = .int .i64 x ∧ b = .int .i64 y ∧ i = .int .i64 z ∧ Hid (z + 1 = m) ∧ 0 ≤ y ∧ y ≤ 1000000000 ∧ x ≤ 1000000000 ∧ 0 ≤ x ∧ Hid (fv xs = out3 (fvGo (xs.take m).reverse x y))) (fun _ _ i => (intOf i + 1).toNat)
        case atStart =>
          refine ⟨k - 1, _, _, _, Nat.le_refl _, rfl, rfl, rfl, Lib.hid (by omega), by omega, by omega, by omega, by omega, Lib.hid ?_⟩
          have e := Hrun.out
          rw [Hlen.out] at e; exact e
        case round =>
          clear hc1 hi1 hlast
          obtain ⟨m, x, y, z, hm, rfl, rfl, rfl, hz, hy1, hyx, hx, hx0, hgo⟩ := hrel
          by_cases hm0 : 0 < m
          · obtain ⟨j, rfl⟩ : ∃ j, m = j + 1 := ⟨m - 1, by omega⟩
            obtain rfl : z = (j : Int) := by have := hz.out; omega
            have hc1 := Hc.out j (by omega)
            have hi1 : 0 ≤ (j : Int) ∧ (j : Int) < (k : Int) := by omega
            have hq := okQ_bd (hall.out j (by omega))
            have hb := mul_bd hq.1 hq.2 (show 0 ≤ x by omega) hx (by omega)
            have Hstep := Lib.hid (fvGo_step (xs := xs) j (by rw [Hlen.out]; omega) x y)
            by_cases hbig : 1000000000 < gx xs j * x + y
            · have Hres := Lib.hid (show fv xs = (0, 0, 3) by rw [hgo.out, Hstep.out, if_pos hbig]; rfl)
              go_wp2
              refine bodyPost_ret (v := .tuple #[.agg #[.int .i64 0, .int .i64 0], .int .i64 3]) (by simp [results, Try.results11, go_sem]) rfl ⟨by rw [Hres.out], ?_⟩
              go_grown
            · have Hnew := Lib.hid (show fv xs = out3 (fvGo (xs.take j).reverse (gx xs j * x + y) x) by rw [hgo.out, Hstep.out, if_neg hbig])
              go_wp2
              go_round
              case rel => exact ⟨j, _, _, _, by omega, rfl, rfl, rfl, Lib.hid (by omega), by omega, by omega, by omega, by omega, Hnew⟩
              case measure => first | (simp [intOf]; done) | (simp [intOf]; omega)
          · obtain rfl : m = 0 := by omega
            obtain rfl : z = -1 := by have := hz.out; omega
            have Hres := Lib.hid (show fv xs = (x, y, 0) by rw [hgo.out]; rfl)
            go_wp2
            refine bodyPost_ret (v := .tuple #[.agg #[.int .i64 x, .int .i64 y], .int .i64 0]) (by simp [results, Try.results11, go_sem]) rfl ⟨by rw [Hres.out], ?_⟩
            go_grown
  · have Hres := Lib.hid (fv_len (xs := xs) (by rw [Hlen.out]; exact hl))
    by_cases h1 : n < 1
    · clear hl
      go_enter Try.func11, Try.ntmps11
      go_wp2
      refine bodyPost_ret (v := .tuple #[.agg #[.int .i64 0, .int .i64 0], .int .i64 2]) (by simp [results, Try.results11, go_sem]) rfl ⟨by rw [Hres.out], ?_⟩
      go_grown
    · have h2 : 64 < n := by omega
      clear hl
      go_enter Try.func11, Try.ntmps11
      go_wp2
      refine bodyPost_ret (v := .tuple #[.agg #[.int .i64 0, .int .i64 0], .int .i64 2]) (by simp [results, Try.results11, go_sem]) rfl ⟨by rw [Hres.out], ?_⟩
      go_grown
set_option maxHeartbeats 1600000 in
theorem sFractionValue_any (B : Nat) (v : Value) (xs : List Int) (w : World) (h : Is w B v xs) (hB : B ≤ w.heap.size) : Calls Try.prog 20 #[v] w (Fr3 (fv xs) w) := by
  obtain ⟨A, n, c, rfl, hnc, hcm, hrd⟩ := h
  have Hlen := Lib.hid hrd.len
  unfold maxLen at hcm
  by_cases hl : 1 ≤ n ∧ n ≤ 64
  · obtain ⟨hl1, hl2⟩ := hl
    obtain ⟨ad, rfl, hab, hc⟩ := hrd.pos (by omega)
    have hc' : ∀ j, j < n → (w.alloc (.cells #[.int .i64 0, .int .i64 0] 35)).cell? (ad.add j) = some (.int .i64 (gx xs j)) := fun j hj => by
      rw [World.cell?_alloc_lt _ _ _ (by rw [block_of_add]; omega)]; exact hc j hj
    have Hc := Lib.hid hc'
    clear hc hc'
    go_enter Try.func20, Try.ntmps20
    go_wp2
    go_loop [4] (fun i => ∃ k : Nat, k ≤ n ∧ i = .int .i64 k ∧ Hid (∀ j, j < k → okQ j (gx xs j) = true)) (fun i => n - (intOf i).toNat)
    case atStart => exact ⟨0, Nat.zero_le _, rfl, Lib.hid (fun j hj => by omega)⟩
    case round =>
      obtain ⟨k, hk, rfl, hall⟩ := hrel
      by_cases hlt : k < n
      · have hc1 := Hc.out k hlt
        cases hR : okQ k (gx xs k)
        · have Hres := Lib.hid (fv_elem k (by rw [Hlen.out]; exact hlt) hR)
          unfold okQ at hR
          by_cases hk0 : k = 0
          · have hR2 : inR (gx xs k) (k : Int) 1000000000 = false := by subst hk0; exact hR
            have hk1 : (k : Int) < 1 := by omega
            clear hk0 hR
            go_wp2_with (go_at_call 34; refine (l01In_any _ _ _ _).mono ?_; rintro e w' ⟨rfl, rfl⟩)
            refine bodyPost_ret (v := .tuple #[.agg #[.int .i64 0, .int .i64 0], .int .i64 2]) (by simp [results, Try.results20, go_sem]) rfl ⟨by rw [Hres.out], ?_⟩
            go_grown
          · rw [if_neg hk0] at hR
            have hk1 : 1 ≤ (k : Int) := by omega
            clear hk0
            go_wp2_with (go_at_call 34; refine (l01In_any _ _ _ _).mono ?_; rintro e w' ⟨rfl, rfl⟩)
            refine bodyPost_ret (v := .tuple #[.agg #[.int .i64 0, .int .i64 0], .int .i64 2]) (by simp [results, Try.results20, go_sem]) rfl ⟨by rw [Hres.out], ?_⟩
            go_grown
        · have Hall := Lib.hid (show ∀ j, j < k + 1 → okQ j (gx xs j) = true from fun j hj => by
            by_cases e : j = k
            · rw [e]; exact hR
            · exact hall.out j (by omega))
          unfold okQ at hR
          by_cases hk0 : k = 0
          · have hR2 : inR (gx xs k) (k : Int) 1000000000 = true := by subst hk0; exact hR
            have hk1 : (k : Int) < 1 := by omega
            clear hk0 hR
            go_wp2_with (go_at_call 34; refine (l01In_any _ _ _ _).mono ?_; rintro e w' ⟨rfl, rfl⟩)
            go_round
            case rel => exact ⟨k + 1, by omega, by go_num, Hall⟩
            case measure => first | (simp [intOf]; done) | (simp [intOf]; omega)
          · rw [if_neg hk0] at hR
            have hk1 : 1 ≤ (k : Int) := by omega
            clear hk0
            go_wp2_with (go_at_call 34; refine (l01In_any _ _ _ _).mono ?_; rintro e w' ⟨rfl, rfl⟩)
            go_round
            case rel => exact ⟨k + 1, by omega, by go_num, Hall⟩
            case measure => first | (simp [intOf]; done) | (simp [intOf]; omega)
      · have hkn : k = n := by omega
        subst hkn
        have Hrun := Lib.hid (fv_run (xs := xs) (by rw [Hlen.out]; omega) (by rw [Hlen.out]; exact hall.out))
        have hc1 := Hc.out (k - 1) (by omega)
        have hi1 : 0 ≤ (k : Int) - 1 ∧ (k : Int) - 1 < (k : Int) := by omega
        have hlast := okQ_bd (hall.out (k - 1) (by omega))
        go_wp2
        go_loop [5, 6, 7] (fun t b i => ∃ (m : Nat) (x y z : Int), m ≤ k - 1 ∧ t = .int .i64 x ∧ b = .int .i64 y ∧ i = .int .i64 z ∧ Hid (z + 1 = m) ∧ 0 ≤ y ∧ y ≤ 1000000000 ∧ x ≤ 1000000000 ∧ 0 ≤ x ∧ Hid (fv xs = out3 (fvGo (xs.take m).reverse x y))) (fun _ _ i => (intOf i + 1).toNat)
        case atStart =>
          refine ⟨k - 1, _, _, _, Nat.le_refl _, rfl, rfl, rfl, Lib.hid (by omega), by omega, by omega, by omega, by omega, Lib.hid ?_⟩
          have e := Hrun.out
          rw [Hlen.out] at e; exact e
        case round =>
          clear hc1 hi1 hlast
          obtain ⟨m, x, y, z, hm, rfl, rfl, rfl, hz, hy1, hyx, hx, hx0, hgo⟩ := hrel
          by_cases hm0 : 0 < m
          · obtain ⟨j, rfl⟩ : ∃ j, m = j + 1 := ⟨m - 1, by omega⟩
            obtain rfl : z = (j : Int) := by have := hz.out; omega
            have hc1 := Hc.out j (by omega)
            have hi1 : 0 ≤ (j : Int) ∧ (j : Int) < (k : Int) := by omega
            have hq := okQ_bd (hall.out j (by omega))
            have hb := mul_bd hq.1 hq.2 (show 0 ≤ x by omega) hx (by omega)
            have Hstep := Lib.hid (fvGo_step (xs := xs) j (by rw [Hlen.out]; omega) x y)
            by_cases hbig : 1000000000 < gx xs j * x + y
            · have Hres := Lib.hid (show fv xs = (0, 0, 3) by rw [hgo.out, Hstep.out, if_pos hbig]; rfl)
              go_wp2
              refine bodyPost_ret (v := .tuple #[.agg #[.int .i64 0, .int .i64 0], .int .i64 3]) (by simp [results, Try.results20, go_sem]) rfl ⟨by rw [Hres.out], ?_⟩
              go_grown
            · have Hnew := Lib.hid (show fv xs = out3 (fvGo (xs.take j).reverse (gx xs j * x + y) x) by rw [hgo.out, Hstep.out, if_neg hbig])
              go_wp2
              go_round
              case rel => exact ⟨j, _, _, _, by omega, rfl, rfl, rfl, Lib.hid (by omega), by omega, by omega, by omega, by omega, Hnew⟩
              case measure => first | (simp [intOf]; done) | (simp [intOf]; omega)
          · obtain rfl : m = 0 := by omega
            obtain rfl : z = -1 := by have := hz.out; omega
            have Hres := Lib.hid (show fv xs = (x, y, 0) by rw [hgo.out]; rfl)
            go_wp2
            refine bodyPost_ret (v := .tuple #[.agg #[.int .i64 x, .int .i64 y], .int .i64 0]) (by simp [results, Try.results20, go_sem]) rfl ⟨by rw [Hres.out], ?_⟩
            go_grown
  · have Hres := Lib.hid (fv_len (xs := xs) (by rw [Hlen.out]; exact hl))
    by_cases h1 : n < 1
    · clear hl
      go_enter Try.func20, Try.ntmps20
      go_wp2
      refine bodyPost_ret (v := .tuple #[.agg #[.int .i64 0, .int .i64 0], .int .i64 2]) (by simp [results, Try.results20, go_sem]) rfl ⟨by rw [Hres.out], ?_⟩
      go_grown
    · have h2 : 64 < n := by omega
      clear hl
      go_enter Try.func20, Try.ntmps20
      go_wp2
      refine bodyPost_ret (v := .tuple #[.agg #[.int .i64 0, .int .i64 0], .int .i64 2]) (by simp [results, Try.results20, go_sem]) rfl ⟨by rw [Hres.out], ?_⟩
      go_grown
end WA
end Go.Proofs.Ythnpcjjdckpmiaa
