/-
  WALKS, CHAPTER 2: is it a polynomial; its value at a place.
  WALKS, CHAPTER 2: copies, the other order, zeros at the end.
-/
import Derived.Test.YtogkblncdpbhnaaKit
import Derived.Test.YtogkblncdpbhnaaPlB
import Derived.Test.YtogkblncdpbhnaaWlkA1
import Derived.BigRegion
import Derived.Deep.QuietTactic
import Derived.BigQuiet
namespace Go.Proofs.Ytogkblncdpbhnaa
open Go.RowKit
set_option linter.unusedVariables false
namespace WB
open K Pl WA

theorem isCoefficient_any (n : Int) (w : World) : Calls Try.prog 51 #[.int .i64 n] w fun e w' => e = .returned (.bool (isCoef n)) ∧ w = w' := by
  go_enter Try.func51, Try.ntmps51
  go_wp2_with (go_at_call 34; refine (inRange_any _ _ _ _).mono ?_; rintro e w' ⟨rfl, rfl⟩)
  go_ret
  exact ⟨rfl, rfl⟩
set_option maxHeartbeats 800000 in
theorem IsPolynomial_any (B : Nat) (v : Value) (xs : List Int) (w : World) (h : Is w B v xs) (hB : B ≤ w.heap.size) : Calls Try.prog 25 #[v] w fun e w' => e = .returned (.bool (isPoly xs)) ∧ w = w' := by
  obtain ⟨A, n, c, rfl, hnc, hcm, hrd⟩ := h
  have Hlen := Lib.hid hrd.len
  unfold maxLen at hcm
  by_cases hl : 2001 < n
  · have Hr := Lib.hid (isPoly_long (p := xs) (by rw [Hlen.out]; exact hl))
    go_enter Try.func25, Try.ntmps25
    go_wp2
    go_ret
    exact ⟨ret_b Hr.out.symm, rfl⟩
  · by_cases h0 : 0 < n
    · obtain ⟨ad, rfl, hab, hc⟩ := hrd.pos h0
      have hcl := hc (n - 1) (by omega)
      have hi1 : 0 ≤ (n : Int) - 1 ∧ (n : Int) - 1 < (n : Int) := by omega
      by_cases hz : gx xs (n - 1) = 0
      · have Hr := Lib.hid (isPoly_last (p := xs) (by rw [Hlen.out]; exact h0) (by rw [Hlen.out]; exact hz))
        have he : (gx xs (n - 1) == 0) = true := by simp [hz]
        have Hc := Lib.hid hc; clear hz hc
        go_enter Try.func25, Try.ntmps25
        go_wp2
        go_ret
        exact ⟨ret_b Hr.out.symm, rfl⟩
      · have he : (gx xs (n - 1) == 0) = false := by simp [hz]
        have Hz := Lib.hid hz
        have Hc := Lib.hid hc; clear hz hc
        go_enter Try.func25, Try.ntmps25
        go_wp2
        go_loop [24] (fun i => ∃ k : Nat, k ≤ n ∧ i = .int .i64 k ∧ Hid (∀ j, j < k → isCoef (gx xs j) = true)) (fun i => n - (intOf i).toNat)
        case atStart => exact ⟨0, Nat.zero_le _, rfl, Lib.hid (fun j hj => by omega)⟩
        case round =>
          clear hcl hi1 he
          obtain ⟨k, hk, rfl, hall⟩ := hrel
          by_cases hlt : k < n
          · have hc1 := Hc.out k hlt
            cases hR : isCoef (gx xs k)
            · have Hr := Lib.hid (isPoly_coef (p := xs) k (by rw [Hlen.out]; exact hlt) hR)
              go_wp2_with (go_at_call 51; refine (isCoefficient_any _ _).mono ?_; rintro e w' ⟨rfl, rfl⟩)
              go_ret
              exact ⟨ret_b Hr.out.symm, rfl⟩
            · have Hall := Lib.hid (show ∀ j, j < k + 1 → isCoef (gx xs j) = true from fun j hj => by
                by_cases e : j = k
                · rw [e]; exact hR
                · exact hall.out j (by omega))
              go_wp2_with (go_at_call 51; refine (isCoefficient_any _ _).mono ?_; rintro e w' ⟨rfl, rfl⟩)
              go_round
              case rel => exact ⟨k + 1, by omega, by go_num, Hall⟩
              case measure => first | (simp [intOf]; done) | (simp [intOf]; omega)
          · have Hr := Lib.hid (isPoly_yes (p := xs) (by rw [Hlen.out]; omega) (by rw [Hlen.out]; exact .inr Hz.out) (by rw [Hlen.out]; exact fun j hj => hall.out j (by omega)))
            go_wp2
            go_ret
            exact ⟨ret_b Hr.out.symm, rfl⟩
    · have Hr := Lib.hid (isPoly_yes (p := xs) (by rw [Hlen.out]; omega) (by rw [Hlen.out]; exact .inl (by omega)) (by rw [Hlen.out]; exact fun j hj => by omega))
      go_enter Try.func25, Try.ntmps25
      go_wp2
      refine wp_loop_rounds 1 ?_
      rw [rounds_succ]
      go_wp2
      go_ret
      exact ⟨ret_b Hr.out.symm, rfl⟩
set_option maxHeartbeats 800000 in
theorem l02Is_any (B : Nat) (v : Value) (xs : List Int) (w : World) (h : Is w B v xs) (hB : B ≤ w.heap.size) : Calls Try.prog 31 #[v] w fun e w' => e = .returned (.bool (isPoly xs)) ∧ w = w' := by
  obtain ⟨A, n, c, rfl, hnc, hcm, hrd⟩ := h
  have Hlen := Lib.hid hrd.len
  unfold maxLen at hcm
  go_enter Try.func31, Try.ntmps31
  go_wp2
  go_loop [3] (fun i => ∃ k : Nat, k ≤ n ∧ i = .int .i64 k ∧ Hid (∀ j, j < k → isCoef (gx xs j) = true)) (fun i => n - (intOf i).toNat)
  case atStart => exact ⟨0, Nat.zero_le _, rfl, Lib.hid (fun j hj => by omega)⟩
  case round =>
    obtain ⟨k, hk, rfl, hall⟩ := hrel
    by_cases hlt : k < n
    · obtain ⟨ad, rfl, hab, hc⟩ := hrd.pos (by omega)
      have hc1 := hc k hlt
      clear hc
      cases hR : isCoef (gx xs k)
      · have Hr := Lib.hid (isPoly_coef (p := xs) k (by rw [Hlen.out]; exact hlt) hR)
        have hR' : inR (gx xs k) (-1000000000000) 1000000000000 = false := hR
        clear hR
        go_wp2_with (go_at_call 36; refine (l01In_any _ _ _ _).mono ?_; rintro e w' ⟨rfl, rfl⟩)
        go_ret
        exact ⟨ret_b Hr.out.symm, rfl⟩
      · have Hall := Lib.hid (show ∀ j, j < k + 1 → isCoef (gx xs j) = true from fun j hj => by
          by_cases e : j = k
          · rw [e]; exact hR
          · exact hall.out j (by omega))
        have hR' : inR (gx xs k) (-1000000000000) 1000000000000 = true := hR
        clear hR
        go_wp2_with (go_at_call 36; refine (l01In_any _ _ _ _).mono ?_; rintro e w' ⟨rfl, rfl⟩)
        go_round
        case rel => exact ⟨k + 1, by omega, by go_num, Hall⟩
        case measure => first | (simp [intOf]; done) | (simp [intOf]; omega)
    · have hkn : k = n := by omega
      subst hkn
      by_cases hl : 2001 < k
      · have Hr := Lib.hid (isPoly_long (p := xs) (by rw [Hlen.out]; exact hl))
        go_wp2
        go_ret
        exact ⟨ret_b Hr.out.symm, rfl⟩
      · by_cases h0 : 0 < k
        · obtain ⟨ad, rfl, hab, hc⟩ := hrd.pos h0
          have hcl := hc (k - 1) (by omega)
          have hi1 : 0 ≤ (k : Int) - 1 ∧ (k : Int) - 1 < (k : Int) := by omega
          have hk0 : ((k : Int) == 0) = false := by simp; omega
          by_cases hz : gx xs (k - 1) = 0
          · have Hr := Lib.hid (isPoly_last (p := xs) (by rw [Hlen.out]; exact h0) (by rw [Hlen.out]; exact hz))
            have he : (gx xs (k - 1) != 0) = false := by simp [hz]
            clear hz hc
            go_wp2
            go_ret
            exact ⟨ret_b Hr.out.symm, rfl⟩
          · have he : (gx xs (k - 1) != 0) = true := by simp [hz]
            have Hr := Lib.hid (isPoly_yes (p := xs) (by rw [Hlen.out]; omega) (by rw [Hlen.out]; exact .inr hz) (by rw [Hlen.out]; exact hall.out))
            clear hz hc
            go_wp2
            go_ret
            exact ⟨ret_b Hr.out.symm, rfl⟩
        · have hk0 : ((k : Int) == 0) = true := by simp; omega
          have Hr := Lib.hid (isPoly_yes (p := xs) (by rw [Hlen.out]; omega) (by rw [Hlen.out]; exact .inl (by omega)) (by rw [Hlen.out]; exact fun j hj => by omega))
          go_wp2
          go_ret
          exact ⟨ret_b Hr.out.symm, rfl⟩
theorem below_of {P : Program} {f : FuncId} {args : Array Value} {w : World} {v : Value} (h : Calls P f args w fun e w' => e = .returned v ∧ w = w') : Calls P f args w fun e w' => e = .returned v ∧ Below w.heap.size w w' :=
  h.mono fun _ _ ⟨he, hw⟩ => ⟨he, by subst hw; exact Below.refl _ _⟩
end WB
end Go.Proofs.Ytogkblncdpbhnaa
namespace Go.Proofs.Ytogkblncdpbhnaa
open Go.RowKit
set_option linter.unusedVariables false
namespace WB
open K Pl WA

/-- What a function that returns a list of numbers leaves. -/
def Li1 (xs : List Int) (w : World) (e : Ending) (w' : World) : Prop := ∃ v, e = .returned v ∧ Ow w' w.heap.size w'.heap.size v xs ∧ Below w.heap.size w w'
/-- A list of numbers and a code. -/
def Li2 (r : List Int × Int) (w : World) (e : Ending) (w' : World) : Prop := ∃ v, e = .returned (.tuple #[v, .int .i64 r.2]) ∧ Ow w' w.heap.size w'.heap.size v r.1 ∧ Below w.heap.size w w'
theorem Ow.nil (w : World) (lo hi : Nat) : Ow w lo hi (.slice none 0 0) [] := ⟨World.ownsRow_nil _ _ _ _, fun k hk => by simp [Value.ownBlock] at hk⟩
theorem Li2.nil {w w' : World} {c : Int} {r : List Int × Int} (hr : r = ([], c)) (h : Below w.heap.size w w') : Li2 r w (.returned (.tuple #[.slice none 0 0, .int .i64 c])) w' := by
  subst hr
  exact ⟨_, rfl, Ow.nil _ _ _, h⟩

theorem l01Own_any (B : Nat) (v : Value) (xs : List Int) (w : World) (h : Is w B v xs) (hB : B ≤ w.heap.size) (hn : xs.length < 1000000000) : Calls Try.prog 49 #[v] w (Li1 xs w) := by
  obtain ⟨A, n, c, rfl, hnc, hcm, hrd⟩ := h
  have hn' : n < 1000000000 := by rw [← hrd.len]; exact hn
  have hown0 : (w.alloc (.cells #[] 2)).ownsRow w.heap.size 2 1 (.slice (some ⟨w.heap.size, 0, none⟩) 0 0) ([] : List Int).length (([] : List Int).map (Value.int .i64)) := World.ownsRow_lit w #[] 0 (Nat.le_refl _) (by decide) rfl
  have hrd' : Rd (w.alloc (.cells #[] 2)) B A n xs := hrd.keep fun p hp => World.cell?_alloc_lt w _ p (by omega)
  clear hrd hn
  go_enter Try.func49, Try.ntmps49
  go_wp2_with (at_builtin; refine wp_append_ints rfl _ _ rfl w.heap.size _ [] rfl hown0 B A n c xs rfl hrd' (by simp; omega) (by simp) ?_)
  intro v' w2 hown2 hgrow
  have hbe : Below w.heap.size w w2 := ((Below.refl _ _).alloc (Nat.le_refl _) _).grown hgrow (by simp) (by simp [Value.ownBlock])
  clear hgrow hown0 hrd'
  go_wp2
  go_ret
  exact ⟨v', rfl, Ow.of_own (n := xs.length) (by simpa using hown2), hbe⟩
theorem Clone_any (B : Nat) (v : Value) (xs : List Int) (w : World) (h : Is w B v xs) (hB : B ≤ w.heap.size) (hn : xs.length < 1000000000) : Calls Try.prog 26 #[v] w (Li1 xs w) := by
  obtain ⟨A, n, c, rfl, hnc, hcm, hrd⟩ := h
  have hn' : n < 1000000000 := by rw [← hrd.len]; exact hn
  cases A with
  | none =>
    obtain rfl : n = 0 := by
      rcases Nat.eq_zero_or_pos n with h0 | h0
      · exact h0
      · obtain ⟨ad, e, _⟩ := hrd.pos h0
        cases e
    obtain rfl : xs = [] := List.eq_nil_of_length_eq_zero hrd.len
    have heq := fun W => Lib.run_eql_slice_nil (P := Try.prog) W 24 2 none 0 c 0 0 Try.underlying24
    go_enter Try.func26, Try.ntmps26
    go_wp2
    go_ret
    exact ⟨_, rfl, Ow.nil _ _ _, Below.refl _ _⟩
  | some ad =>
    have hown0 : (w.alloc (.cells #[] 2)).ownsRow w.heap.size 2 1 (.slice (some ⟨w.heap.size, 0, none⟩) 0 0) ([] : List Int).length (([] : List Int).map (Value.int .i64)) := World.ownsRow_lit w #[] 0 (Nat.le_refl _) (by decide) rfl
    have hrd' : Rd (w.alloc (.cells #[] 2)) B (some ad) n xs := hrd.keep fun p hp => World.cell?_alloc_lt w _ p (by omega)
    have heq := fun W => Lib.run_eql_slice_nil (P := Try.prog) W 24 2 (some ad) n c 0 0 Try.underlying24
    clear hrd hn
    go_enter Try.func26, Try.ntmps26
    go_wp2_with (at_builtin; refine wp_append_ints rfl _ _ rfl w.heap.size _ [] rfl hown0 B (some ad) n c xs rfl hrd' (by simp; omega) (by simp) ?_)
    intro v' w2 hown2 hgrow
    have hbe : Below w.heap.size w w2 := ((Below.refl _ _).alloc (Nat.le_refl _) _).grown hgrow (by simp) (by simp [Value.ownBlock])
    clear hgrow hown0 hrd'
    go_wp2
    go_ret
    exact ⟨v', rfl, Ow.of_own (n := xs.length) (by simpa using hown2), hbe⟩
set_option maxHeartbeats 400000 in
/-- A list of the call's own, without the zeros at its end: the same row, shorter. -/
theorem trimmed_any (lo hi : Nat) (v : Value) (xs : List Int) (w : World) (h : Ow w lo hi v xs) : Calls Try.prog 53 #[v] w fun e w' => ∃ v', e = .returned v' ∧ Ow w lo hi v' (trimL xs) ∧ w = w' := by
  rcases h.1.2 with ⟨rfl, h0⟩ | ⟨g, cap, cur, rfl, hlo, hgg, hnc, hcm, hcs, htk⟩
  · obtain rfl : xs = [] := List.eq_nil_of_length_eq_zero h0
    clear h h0
    go_enter Try.func53, Try.ntmps53
    go_wp2
    refine wp_loop_rounds 1 ?_
    rw [rounds_succ]
    go_wp2
    go_ret
    exact ⟨_, rfl, Ow.nil _ _ _, rfl⟩
  · have hghi : g < hi := h.2 g rfl
    have Hh := Lib.hid h.1
    clear h hcs htk hgg
    generalize hn : xs.length = n at *
    have Hn := Lib.hid hn; clear hn
    have hcm' : cap ≤ 9223372036854775807 := hcm
    clear hcm
    go_enter Try.func53, Try.ntmps53
    go_wp2
    go_loop [0] (fun u => ∃ k : Nat, k ≤ n ∧ u = .slice (some ⟨g, 0, none⟩) k cap ∧ Hid (trimL (xs.take k) = trimL xs)) (fun u => match u with | .slice _ m _ => m | _ => 0)
    case atStart => exact ⟨n, Nat.le_refl _, rfl, Lib.hid (by rw [List.take_of_length_le (by rw [Hn.out]; exact Nat.le_refl _)])⟩
    case round =>
      obtain ⟨k, hk, rfl, ht⟩ := hrel
      by_cases hk0 : 0 < k
      · obtain ⟨j, rfl⟩ : ∃ j, k = j + 1 := ⟨k - 1, by omega⟩
        have hc1 : w.cell? ⟨g, j, none⟩ = some (.int .i64 (gx xs j)) := by
          rw [Hh.out.cellAt j (by omega)]; exact map_gx xs j (by rw [Hn.out]; omega)
        by_cases hz : gx xs j = 0
        · have he : (gx xs j == 0) = true := by simp [hz]
          have Ht := Lib.hid (show trimL (xs.take j) = trimL xs by rw [← ht.out, trimL_take_zero xs j (by rw [Hn.out]; omega) hz])
          clear hz
          go_wp2
          go_round
          case rel => exact ⟨j, by omega, by first | rfl | simp, Ht⟩
          case measure => first | (simp; done) | (simp; omega)
        · have he : (gx xs j == 0) = false := by simp [hz]
          have Ht := Lib.hid (show xs.take (j + 1) = trimL xs by rw [← ht.out, trimL_take_stop xs j (by rw [Hn.out]; omega) hz])
          clear hz
          go_wp2
          go_ret
          refine ⟨_, rfl, ⟨?_, fun k' e => by cases e; exact hghi⟩, rfl⟩
          have e := own_short Hh.out hk
          rw [Ht.out] at e
          have hl : (trimL xs).length = j + 1 := by rw [← Ht.out]; simp; rw [Hn.out]; omega
          rw [hl]; exact e
      · obtain rfl : k = 0 := by omega
        have Ht := Lib.hid (show trimL xs = [] by rw [← ht.out]; simp [trimL])
        go_wp2
        go_ret
        refine ⟨_, rfl, ⟨?_, fun k' e => by cases e; exact hghi⟩, rfl⟩
        rw [Ht.out]
        simpa using own_short Hh.out (Nat.zero_le n)
/-- The first k and the last k numbers exchanged. -/
def revk (xs : List Int) (k : Nat) : List Int := (List.range xs.length).map fun i => if i < k ∨ xs.length ≤ i + k then gx xs (xs.length - 1 - i) else gx xs i
theorem revk_len (xs : List Int) (k : Nat) : (revk xs k).length = xs.length := by simp [revk]
theorem gx_revk (xs : List Int) (k i : Nat) (h : i < xs.length) : gx (revk xs k) i = if i < k ∨ xs.length ≤ i + k then gx xs (xs.length - 1 - i) else gx xs i := by
  rw [gx_eq _ _ (by rw [revk_len]; exact h)]; simp [revk]
theorem revk_zero (xs : List Int) : revk xs 0 = xs := by
  apply gx_ext _ _ (revk_len xs 0)
  intro i hi
  rw [revk_len] at hi
  rw [gx_revk xs 0 i hi, if_neg (by omega)]
theorem revk_all (xs : List Int) (k : Nat) (h : xs.length ≤ 2 * k + 1) : revk xs k = xs.reverse := by
  apply gx_ext _ _ (by rw [revk_len]; simp)
  intro i hi
  rw [revk_len] at hi
  rw [gx_revk xs k i hi, gx_reverse xs i hi]
  split
  · rfl
  · congr 1; omega
theorem gx_set (xs : List Int) (k i : Nat) (u : Int) (h : i < xs.length) : gx (xs.set k u) i = if k = i then u else gx xs i := by
  rw [gx_eq _ _ (by simpa using h), List.getElem_set, gx_eq xs i h]
theorem revk_step (xs : List Int) (k : Nat) (h : 2 * k + 1 < xs.length) : ((revk xs k).set k (gx xs (xs.length - 1 - k))).set (xs.length - 1 - k) (gx xs k) = revk xs (k + 1) := by
  apply gx_ext _ _ (by simp [revk_len])
  intro i hi
  simp [revk_len] at hi
  rw [gx_set _ _ _ _ (by simp [revk_len]; exact hi), gx_set _ _ _ _ (by rw [revk_len]; exact hi), gx_revk xs k i hi, gx_revk xs (k + 1) i hi]
  by_cases h1 : xs.length - 1 - k = i
  · rw [if_pos h1, if_pos (by omega)]; congr 1; omega
  · rw [if_neg h1]
    by_cases h2 : k = i
    · subst h2; rw [if_pos rfl, if_pos (by omega)]
    · rw [if_neg h2]
      by_cases h3 : i < k ∨ xs.length ≤ i + k
      · rw [if_pos h3, if_pos (by omega)]
      · rw [if_neg h3, if_neg (by omega)]

set_option maxHeartbeats 1600000 in
theorem Reverse_any (lo hi : Nat) (v : Value) (xs : List Int) (w : World) (h : Ow w lo hi v xs) : Calls Try.prog 56 #[v] w fun e w' => e = .returned (.tuple #[]) ∧ Ow w' lo hi v xs.reverse ∧ Chg lo hi w w' := by
  rcases h.1.2 with ⟨rfl, h0⟩ | ⟨g, cap, cur, rfl, hlo, hgg, hnc, hcm, hcs, htk⟩
  · obtain rfl : xs = [] := List.eq_nil_of_length_eq_zero h0
    clear h h0
    go_enter Try.func56, Try.ntmps56
    go_wp2
    refine wp_loop_rounds 1 ?_
    rw [rounds_succ]
    go_wp2
    go_end0
    exact ⟨rfl, Ow.nil _ _ _, Chg.refl⟩
  · have hghi : g < hi := h.2 g rfl
    have Hh := Lib.hid h.1
    clear h hcs htk hgg
    generalize hn : xs.length = n at *
    have Hn := Lib.hid hn; clear hn
    have hcm' : cap ≤ 9223372036854775807 := hcm
    clear hcm
    go_enter Try.func56, Try.ntmps56
    go_wp2
    go_loopw [2, 3] (fun s t wr => ∃ (k : Nat) (z : Int), s = .int .i64 (k : Int) ∧ t = .int .i64 z ∧ Hid (z + 1 + k = n) ∧ k ≤ n ∧ 2 * k ≤ n + 1 ∧ Hid (wr.ownsRow lo 2 1 (.slice (some ⟨g, 0, none⟩) n cap) n ((revk xs k).map (Value.int .i64))) ∧ Chg lo hi w wr) (fun s t _ => (intOf t - intOf s + 1).toNat)
    case atStart => exact ⟨0, _, rfl, rfl, Lib.hid (by omega), by omega, by omega, Lib.hid (by rw [revk_zero]; exact Hh.out), Chg.refl⟩
    case round =>
      obtain ⟨k, z, rfl, rfl, hz, hk, hk2, hown, hch⟩ := hrel
      by_cases hlt : (k : Int) < z
      · obtain ⟨j, rfl⟩ := Int.eq_ofNat_of_zero_le (show 0 ≤ z by omega)
        have hj : j = n - 1 - k := by have := hz.out; omega
        have hjn : j < n := by have := hz.out; omega
        have hkj : k < j := by omega
        have hk3 : 2 * k + 1 < n := by have := hz.out; omega
        have ck : wr.cell? ⟨g, k, none⟩ = some (.int .i64 (gx xs k)) := by
          rw [hown.out.cellAt k (by omega), map_gx _ k (by rw [revk_len, Hn.out]; omega), gx_revk xs k k (by rw [Hn.out]; omega), if_neg (by rw [Hn.out]; omega)]
        have cj : wr.cell? ⟨g, j, none⟩ = some (.int .i64 (gx xs j)) := by
          rw [hown.out.cellAt j (by omega), map_gx _ j (by rw [revk_len, Hn.out]; omega), gx_revk xs k j (by rw [Hn.out]; omega), if_neg (by rw [Hn.out]; omega)]
        have fk := hown.out.frozenAt k
        have fj := hown.out.frozenAt j
        have hik : 0 ≤ (k : Int) ∧ (k : Int) < (n : Int) := by omega
        have hij : 0 ≤ (j : Int) ∧ (j : Int) < (n : Int) := by omega
        have hne : ¬ k = j := by omega
        have hne' : ¬ j = k := by omega
        have s1 := hown.out.stored k (.int .i64 (gx xs j))
        have s2 := s1.1.stored j (.int .i64 (gx xs k))
        have Hown2 := Lib.hid (show ((wr.setCell ⟨g, k, none⟩ (.int .i64 (gx xs j))).setCell ⟨g, j, none⟩ (.int .i64 (gx xs k))).ownsRow lo 2 1 (.slice (some ⟨g, 0, none⟩) n cap) n ((revk xs (k + 1)).map (Value.int .i64)) by
          have e := s2.1
          rw [← List.map_set, ← List.map_set] at e
          have e2 := revk_step xs k (by rw [Hn.out]; exact hk3)
          rw [Hn.out, ← hj] at e2
          rw [← e2]; exact e)
        have Hch2 := Lib.hid ((hch.trans (Chg.of_grown (lo := lo) (hi := hi) s1.2 (fun k' e => by cases e; exact ⟨hlo, hghi⟩))).trans (Chg.of_grown (lo := lo) (hi := hi) s2.2 (fun k' e => by cases e; exact ⟨hlo, hghi⟩)))
        have Hj := Lib.hid hj
        clear s1 s2 hown hch hj
        go_wp2
        go_region
        go_wp2
        go_roundw
        case rel => exact ⟨k + 1, _, by go_num, rfl, Lib.hid (by have := hz.out; omega), by omega, by omega, Lib.hid Hown2.out.drew, ⟨Hch2.out.os, Hch2.out.tape, Hch2.out.output, Hch2.out.size, Hch2.out.block⟩⟩
        case measure => first | (simp [intOf]; done) | (simp [intOf]; omega)
      · have Hres := Lib.hid (show revk xs k = xs.reverse from revk_all xs k (by have := hz.out; rw [Hn.out]; omega))
        go_wp2
        go_end0
        refine ⟨rfl, ⟨?_, fun k' e => by cases e; exact hghi⟩, hch⟩
        have e := hown.out
        rw [Hres.out] at e
        have hl : xs.reverse.length = n := by rw [List.length_reverse]; exact Hn.out
        rw [hl]; exact e
end WB
end Go.Proofs.Ytogkblncdpbhnaa
