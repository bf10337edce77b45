/-
  WALKS, CHAPTER 3: a text parsed to a branch by the program.
-/
import Derived.Test.YtgjkbmeafdgfeaaWlkW3
import Derived.Test.YtgjkbmeafdgfeaaWlkW4
import Derived.Test.YtgjkbmeafdgfeaaWlkL5
import Derived.Maps.AppendAt
namespace Go.Proofs.Ytgjkbmeafdgfeaa
open Go.RowKit
set_option linter.unusedVariables false
namespace WW
open K Pl WA WL WC
/-- What a function that returns a branch and a code leaves. -/
def LiB (r : List Int × Int) (w : World) (e : Ending) (w' : World) : Prop := ∃ v, e = .returned (.tuple #[.agg #[v], .int .i64 r.2]) ∧ Ow w' w.heap.size w'.heap.size v r.1 ∧ Below w.heap.size w w'
theorem LiB.nil {w w' : World} {c : Int} {r : List Int × Int} (hr : r = ([], c)) (h : Below w.heap.size w w') : LiB r w (.returned (.tuple #[.agg #[.slice none 0 0], .int .i64 c])) w' := by
  subst hr
  exact ⟨_, rfl, Ow.nil _ _ _, h⟩
/-- A variable's cell: what it holds; it may be written. -/
def Rz (w : World) (b : Nat) (u : Value) : Prop := w.cell? ⟨b, 0, none⟩ = some u ∧ w.frozen? ⟨b, 0, none⟩ = false
section
variable {w w' : World} {b lo hi : Nat} {u : Value}
theorem Rz.here (h : Rz w b u) : b < w.heap.size := World.block_lt_of_cell? w ⟨b, 0, none⟩ h.1
theorem Rz.chg (h : Rz w b u) (hc : Chg lo hi w w') (hd : b < lo ∨ hi ≤ b) : Rz w' b u :=
  ⟨hc.cell h.1 hd, (World.frozen?_of_block (w := w) (hc.block b h.here (by omega))).trans h.2⟩
theorem Rz.later (h : Rz w b u) (hb : Below w.heap.size w w') : Rz w' b u := h.chg (Chg.of_below hb) (.inr (Nat.zero_le _))
theorem Rz.al (h : Rz w b u) (o : Obj) : Rz (w.alloc o) b u := h.later ((Below.refl _ _).alloc (Nat.le_refl _) o)
theorem Rz.grown {row : Option Nat} (h : Rz w b u) (hg : w.grownBy w' row) (hr : ∀ k, row = some k → b ≠ k) : Rz w' b u := by
  obtain ⟨l, m, hc, hd⟩ := chg_of_grown (lo := b) (hi := b + 1) hg (fun k e => by have := hr k e; omega)
  exact h.chg hc (by omega)
theorem Rz.new (w : World) (u : Value) (t : TypeId) : Rz (w.alloc (.cells #[u] t)) w.heap.size u := ⟨by simp [go_sem], by simp [go_sem]⟩
theorem Rz.set (h : Rz w b u) (v : Value) : Rz (w.setCell ⟨b, 0, none⟩ v) b v := ⟨World.cell?_setCell_same _ _ _ h.1, by rw [← h.2]; simp [go_sem]⟩
theorem Rz.far (h : Rz w b u) {d : Nat} (hd : b ≠ d) (v : Value) : Rz (w.setCell ⟨d, 0, none⟩ v) b u :=
  h.chg (Chg.setCell (lo := d) (hi := d + 1) (p := ⟨d, 0, none⟩) ⟨by simp, by simp⟩ v) (by omega)
theorem Rz.dr (h : Rz w b u) (n : Nat) : Rz (w.drewN n) b u := h
end
theorem own_set {w : World} {base : Nat} {e : TypeId} {s n : Nat} {v : Value} {xs : List Value} (h : w.ownsRow base e s v n xs) (b : Nat) (u : Value) (hne : v.ownBlock ≠ some b) : (w.setCell ⟨b, 0, none⟩ u).ownsRow base e s v n xs :=
  h.kept (row := some b) ⟨rfl, rfl, rfl, by simp, fun k _ hk => Below.heap_setCell w ⟨b, 0, none⟩ _ k (fun e => hk (by rw [e]))⟩ (.inr hne)
/-- The result's cell is written, last of all. -/
theorem res_out2 {w wr : World} {b lo hi : Nat} {v u : Value} {xs : List Int} (h : Ow wr lo hi v xs) (hb : b < lo) (hhi : hi ≤ wr.heap.size) (hc : wr.cell? ⟨b, 0, none⟩ = some u) (hw : w.heap.size ≤ b) (hbe : Below w.heap.size w wr) :
    (wr.setCell ⟨b, 0, none⟩ v).cell? ⟨b, 0, none⟩ = some v ∧ Ow (wr.setCell ⟨b, 0, none⟩ v) w.heap.size (wr.setCell ⟨b, 0, none⟩ v).heap.size v xs ∧ Below w.heap.size w (wr.setCell ⟨b, 0, none⟩ v) :=
  ⟨World.cell?_setCell_same _ _ _ hc, (h.keep (Chg.setCell (lo := b) (hi := b + 1) (p := ⟨b, 0, none⟩) ⟨by simp, by simp⟩ _) (.inr (by omega))).wide (by omega) (by simpa using hhi), hbe.setCell (p := ⟨b, 0, none⟩) hw _⟩
/-- A failure's result: the cell is written with nothing. -/
theorem res_none {w wr : World} {b : Nat} {u : Value} (hc : wr.cell? ⟨b, 0, none⟩ = some u) (hw : w.heap.size ≤ b) (hbe : Below w.heap.size w wr) :
    (wr.setCell ⟨b, 0, none⟩ (.slice none 0 0)).cell? ⟨b, 0, none⟩ = some (.slice none 0 0) ∧ Below w.heap.size w (wr.setCell ⟨b, 0, none⟩ (.slice none 0 0)) :=
  ⟨World.cell?_setCell_same _ _ _ hc, hbe.setCell (p := ⟨b, 0, none⟩) hw _⟩
/-- 'append(xs, ys...)': as 'wp_append_ints', and where the new row lies. -/
theorem wp_append_ints_at {w : World} {ops : Array Oper} {rest : List Oper} {o : Oper} {a : Act} {Q : Exit → Act → World → Prop} (hgd : o.guard = none) (s x : Operand)
    (ho : o.op = .call { callee := .builtin .append, args := #[s, x], argTypes := #[22, 22] })
    (lo : Nat) (v : Value) (xs : List Int) (hs : a.eval s = v) (hown : w.ownsRow lo 2 1 v xs.length (xs.map (Value.int .i64)))
    (B : Nat) (A : Option Addr) (n c : Nat) (ys : List Int) (hx : a.eval x = .slice A n c) (hr : Rd w B A n ys) (hn : xs.length + n < 1000000000000) (hbase : lo ≤ w.heap.size)
    (h : ∀ v' w', w'.ownsRow lo 2 1 v' (xs ++ ys).length ((xs ++ ys).map (Value.int .i64)) → w.grownBy w' v.ownBlock → (v'.ownBlock = v.ownBlock ∨ v'.ownBlock = some w.heap.size) → wpList Try.prog ops Q rest (a.put o.dst v') w') : wpList Try.prog ops Q (o :: rest) a w := by
  obtain ⟨i0, hi, hz0, hz1, hz2⟩ := info_parts info64
  have hl := hr.len
  cases A with
  | none =>
    obtain rfl : n = 0 := by
      rcases Nat.eq_zero_or_pos n with h0 | h0
      · exact h0
      · obtain ⟨ad, e, _⟩ := hr.pos h0
        cases e
    obtain rfl : ys = [] := List.eq_nil_of_length_eq_zero hl
    refine wpList_plain hgd fun K hK => ?_
    have hrun := run_append_nothing (w := w) lo 22 o.type 2 i0 Try.underlying22 hi v xs.length _ hown c
    unfold Oper.wp
    simp [execOp, ho, resolve, invoke, builtin, hs, hx, hrun, Result.andThen]
    exact hK _ _ (h v w (by simpa using hown) (World.grownBy.refl _ _) (.inl rfl))
  | some ad =>
    refine wpList_append_own_at (P := Try.prog) w hgd s x 22 ho lo 2 i0 (.int .i64 0) 1 8 Try.underlying22 hi hz0 hz1 hz2 rfl (by decide) v xs.length _ hs hown ad n c (ys.map (Value.int .i64)) hx (by simp [hl]) ?_ ?_ (by unfold maxLen; omega) (by omega) hbase ?_
    · intro j u hj
      obtain ⟨rfl, hjl⟩ := gx_map ys j u hj
      obtain ⟨ad', e, _, hc⟩ := hr.pos (by omega)
      cases e
      exact hc j (by omega)
    · intro u hu
      obtain ⟨_, _, rfl⟩ := List.mem_map.1 hu
      rfl
    · intro v' w' h1 h2 _ h4
      exact h v' w' (by simpa [hl] using h1) h2 h4
theorem L_mid (s : ByteArray) (h : 2 ≤ s.size) : L (s.extract 1 (s.size - 1)) = mid (L s) := by
  rw [L_extract]; unfold mid; rw [L_len, show s.size - 1 - 1 = s.size - 2 by omega]
theorem shell_cases (m : Nat) (s : ByteArray) (hm : 1 ≤ m) (h : shell m (L s) = false) (hs : m ≤ s.size) : ∃ h0 : 0 < s.size, ∃ h1 : s.size - 1 < s.size, (((s[0]'h0).toNat : Int) == 40) = false ∨ ((((s[0]'h0).toNat : Int) == 40) = true ∧ (((s[s.size - 1]'h1).toNat : Int) == 41) = false) := by
  refine ⟨by omega, by omega, ?_⟩
  rw [L_at s 0 (by omega), L_at s (s.size - 1) (by omega)]
  unfold shell at h
  rw [L_len, decide_eq_true hs, Bool.true_and] at h
  rcases Bool.and_eq_false_iff.1 h with h | h
  · exact .inl (bytes_ne (d := 40) (by simpa [bx] using h))
  · by_cases h0 : bx (L s) 0 = 40
    · exact .inr ⟨by rw [h0]; rfl, bytes_ne (d := 41) (by simpa [bx] using h)⟩
    · exact .inl (bytes_ne (d := 40) h0)
theorem shell_bytes (m : Nat) (s : ByteArray) (hm : 1 ≤ m) (h : shell m (L s) = true) : m ≤ s.size ∧ ∃ h0 : 0 < s.size, ∃ h1 : s.size - 1 < s.size, (((s[0]'h0).toNat : Int) == 40) = true ∧ (((s[s.size - 1]'h1).toNat : Int) == 41) = true := by
  unfold shell at h
  simp only [Bool.and_eq_true, decide_eq_true_eq, beq_iff_eq, L_len] at h
  obtain ⟨h1, h2, h3⟩ := h
  refine ⟨h1, by omega, by omega, ?_, ?_⟩
  · rw [L_at s 0 (by omega), show bx (L s) 0 = 40 from h2]; rfl
  · rw [L_at s (s.size - 1) (by omega), show bx (L s) (s.size - 1) = 41 from h3]; rfl
theorem neqT {a b : Int} (h : (a == b) = false) : (a != b) = true := by simp [bne, h]
theorem neqF {a b : Int} (h : (a == b) = true) : (a != b) = false := by simp [bne, h]
set_option maxHeartbeats 3200000 in
theorem ParseBranch_any (s : ByteArray) (w : World) (hs : s.size ≤ 100000000) : Calls Try.prog 5 #[.string s] w (LiB (pbB (L s)) w) := by
  have hb1 : ∀ o, Below w.heap.size w (w.alloc o) := fun o => (Below.refl _ _).alloc (Nat.le_refl _) o
  by_cases h3 : s.size < 3
  · have Hr := Lib.hid (show pbB (L s) = ([], 6) by unfold pbB pbI shell; rw [L_len, decide_eq_false (show ¬ 3 ≤ s.size by omega)]; rfl)
    have e3 : decide ((s.size : Int) < 3) = true := by simp; omega
    clear h3
    go_enter Try.func5, Try.ntmps5
    go_wp2_with fail
    exact bodyPost_ret (v := .tuple #[.agg #[.slice none 0 0], .int .i64 6]) (by simp [results, Try.results5, go_sem]) rfl (LiB.nil Hr.out (hb1 _))
  · have e3 : decide ((s.size : Int) < 3) = false := by simp; omega
    have hsl : ((s.size : Int) - 1).toNat = s.size - 1 := by omega
    cases hsh : shell 3 (L s)
    · have Hr := Lib.hid (show pbB (L s) = ([], 6) by unfold pbB pbI; rw [hsh]; rfl)
      obtain ⟨h0, h1, hx⟩ := shell_cases 3 s (by omega) hsh (by omega)
      have hib : (0 : Int) ≤ (s.size : Int) - 1 ∧ (s.size : Int) - 1 < (s.size : Int) := by omega
      clear h3 hsh
      rcases hx with hx | ⟨hy, hx⟩
      · have hx2 := neqT hx
        go_enter Try.func5, Try.ntmps5
        go_wp2_with fail
        exact bodyPost_ret (v := .tuple #[.agg #[.slice none 0 0], .int .i64 6]) (by simp [results, Try.results5, go_sem]) rfl (LiB.nil Hr.out (hb1 _))
      · have hx2 := neqT hx
        have hy2 := neqF hy
        go_enter Try.func5, Try.ntmps5
        go_wp2_with fail
        exact bodyPost_ret (v := .tuple #[.agg #[.slice none 0 0], .int .i64 6]) (by simp [results, Try.results5, go_sem]) rfl (LiB.nil Hr.out (hb1 _))
    · obtain ⟨h2, h0, h1, hx, hy⟩ := shell_bytes 3 s (by omega) hsh
      have hx2 := neqF hx
      have hy2 := neqF hy
      have hib : (0 : Int) ≤ (s.size : Int) - 1 ∧ (s.size : Int) - 1 < (s.size : Int) := by omega
      have hib2 : (1 : Int) ≤ (s.size : Int) - 1 ∧ (s.size : Int) - 1 ≤ (s.size : Int) := by omega
      have Hm := Lib.hid (L_mid s (by omega))
      have Hms := Lib.hid (show (s.extract 1 (s.size - 1)).size ≤ 100000000 by
        rw [← L_len, Hm.out]; unfold mid; simp [L_len]; omega)
      have hbl := bef_len 59 (mid (L s))
      have hhl := beh_len 59 (mid (L s))
      have hml : (mid (L s)).length ≤ 100000000 := by rw [← Hm.out, L_len]; exact Hms.out
      have H1 := Lib.hid (fun h => pbI_bad (t := L s) hsh h)
      have H2 := Lib.hid (fun h h' => pbI_one (t := L s) hsh h h')
      have H3 := Lib.hid (fun h h' => pbI_more (t := L s) hsh h h')
      generalize mid (L s) = m at *
      clear h3 hsh hx hy
      go_enter Try.func5, Try.ntmps5
      go_wp2_with fail
      refine (parted_any _ 59 _ rfl _ (by have := Hms.out; omega)).mono ?_
      rintro e w' ⟨rfl, n1, rfl⟩
      rw [Hm.out]
      obtain ⟨W0, hW0⟩ : ∃ W0, W0 = (w.alloc (.cells #[.slice none 0 0] 24)).drewN n1 := ⟨_, rfl⟩
      have r0 : Rz W0 w.heap.size (.slice none 0 0) := by rw [hW0]; exact (Rz.new w _ _).dr n1
      have b0 : Below w.heap.size w W0 := by rw [hW0]; exact below_drewN (hb1 _) n1
      rw [← hW0]
      clear hW0 hb1
      go_wp2_with fail
      refine (numberOf_any _ _ (by rw [S_size]; omega)).mono ?_
      rintro e w' ⟨rfl, n2, rfl⟩
      rw [L_S]
      obtain ⟨W1, hW1⟩ : ∃ W1, W1 = W0.drewN n2 := ⟨_, rfl⟩
      have r1 : Rz W1 w.heap.size (.slice none 0 0) := by rw [hW1]; exact r0.dr n2
      have b1 : Below w.heap.size w W1 := by rw [hW1]; exact below_drewN b0 n2
      rw [← hW1]
      clear hW1 r0 b0
      have s1 : w.heap.size + 1 ≤ W1.heap.size := r1.here
      have HB := Lib.hid (Bv.lit (t := 24) W1 (nmI (bef 59 m)) (Nat.le_refl _))
      have b2 : ∀ o o', Below w.heap.size w ((W1.alloc o).alloc o') := fun o o' => ((b1.alloc b1.size _).alloc (by have := b1.size; simp; omega) _)
      have r2 : ∀ o o', Hid (Rz ((W1.alloc o).alloc o') w.heap.size (.slice none 0 0)) := fun o o' => Lib.hid ((r1.al o).al o')
      cases hok : vlOk (bef 59 m)
      · have Hr := Lib.hid (show pbB (L s) = ([], 6) by unfold pbB; rw [H1.out hok])
        have N1 := fun o o' => res_none (r2 o o').out.1 (Nat.le_refl _) (b2 o o')
        have N2 := fun o o' => (N1 o o').1
        have N3 := Lib.hid (fun o o' => (N1 o o').2)
        have hcr := fun o o' => (r2 o o').out.1
        have hfr := fun o o' => (r2 o o').out.2
        clear N1
        go_wp2_with fail
        exact bodyPost_ret (v := .tuple #[.agg #[.slice none 0 0], .int .i64 6]) (by simp [results, Try.results5, go_sem, N2]) rfl (LiB.nil Hr.out (N3.out _ _))
      · generalize hz : nmI (bef 59 m) = z at *
        have hz1 : ∀ o o', W1.heap.size + 2 ≤ ((W1.alloc o).alloc o').heap.size := fun o o' => by simp
        cases hf : fnd 59 m
        · have hI : ∀ W w3 : World, Below W.heap.size W w3 → Hid (Bv W (W1.heap.size + 1) W1.heap.size (some ⟨W1.heap.size, 0, none⟩) 1 1 [z]) → Hid (Rz W w.heap.size (.slice none 0 0)) → Below w.heap.size w W → Hid (W1.heap.size + 2 ≤ W.heap.size) →
              w3.cell? ⟨W1.heap.size + 1, 0, none⟩ = some (.slice (some ⟨W1.heap.size, 0, none⟩) 1 1) ∧ w3.cell? ⟨w.heap.size, 0, none⟩ = some (.slice none 0 0) ∧ w3.frozen? ⟨w.heap.size, 0, none⟩ = false ∧
              ((w3.setCell ⟨w.heap.size, 0, none⟩ (.slice none 0 0)).cell? ⟨w.heap.size, 0, none⟩ = some (.slice none 0 0)) ∧ ((w3.setCell ⟨w.heap.size, 0, none⟩ (.slice (some ⟨W1.heap.size, 0, none⟩) 1 1)).cell? ⟨w.heap.size, 0, none⟩ = some (.slice (some ⟨W1.heap.size, 0, none⟩) 1 1)) ∧
              Hid (Below w.heap.size w (w3.setCell ⟨w.heap.size, 0, none⟩ (.slice none 0 0))) ∧ Hid (Below w.heap.size w (w3.setCell ⟨w.heap.size, 0, none⟩ (.slice (some ⟨W1.heap.size, 0, none⟩) 1 1))) ∧
              Hid (Ow (w3.setCell ⟨w.heap.size, 0, none⟩ (.slice (some ⟨W1.heap.size, 0, none⟩) 1 1)) w.heap.size (w3.setCell ⟨w.heap.size, 0, none⟩ (.slice (some ⟨W1.heap.size, 0, none⟩) 1 1)).heap.size (.slice (some ⟨W1.heap.size, 0, none⟩) 1 1) [z]) := by
            intro W w3 hb hB hR hw hsz
            have q1 := hB.out.later hb
            have q2 := hR.out.later hb
            have hbw := hw.trans (hb.mono hw.size)
            have o1 : Ow w3 W1.heap.size w3.heap.size _ [z] := q1.ow (Nat.le_refl _)
            obtain ⟨p1, p2, p3⟩ := res_out2 (b := w.heap.size) o1 (by omega) (Nat.le_refl _) q2.1 (Nat.le_refl _) hbw
            obtain ⟨p4, p5⟩ := res_none q2.1 (Nat.le_refl _) hbw
            exact ⟨q1.cell, q2.1, q2.2, p4, p1, Lib.hid p5, Lib.hid p3, Lib.hid p2⟩
          have HI := Lib.hid hI; clear hI
          have hwd := fun o o' => Lib.hid (hz1 o o'); clear hz1
          have hIs := Lib.hid (HB.out.ow (Nat.le_refl _)).is
          go_wp2_with fail
          refine (IsBranch_any _ _ [z] _ hIs.out (Nat.le_refl _)).mono ?_
          rintro e w3 ⟨rfl, hb3⟩
          obtain ⟨g1, g2, g3, g4, g5, g6, g7, g8⟩ := HI.out _ _ hb3 HB (r2 _ _) (b2 _ _) (hwd _ _)
          clear HB hIs hb3 HI b2 r2 hwd
          cases hbr : isBr [z]
          · have Hr := Lib.hid (show pbB (L s) = ([], 6) by unfold pbB; rw [H2.out hok hf]; simp only; rw [hbr]; rfl)
            go_wp2_with fail
            exact bodyPost_ret (v := .tuple #[.agg #[.slice none 0 0], .int .i64 6]) (by simp [results, Try.results5, go_sem, g4]) rfl (LiB.nil Hr.out g6.out)
          · have Hr := Lib.hid (show pbB (L s) = ([z], 0) by unfold pbB; rw [H2.out hok hf]; simp only; rw [hbr]; rfl)
            go_wp2_with fail
            exact bodyPost_ret (v := .tuple #[.agg #[.slice (some ⟨W1.heap.size, 0, none⟩) 1 1], .int .i64 0]) (by simp [results, Try.results5, go_sem, g5]) rfl ⟨_, by rw [Hr.out], by rw [Hr.out]; exact g8.out, g7.out⟩
        · have hE := Lib.hid (H3.out hok hf)
          go_wp2_with fail
          refine (numbersOf_any _ 44 _ rfl _ (by rw [S_size]; omega)).mono ?_
          rintro e w3 ⟨v3, rfl, o3, hb3⟩
          rw [L_S] at *
          obtain ⟨A3, n3, c3, rfl, hnc3, hcm3, hrd3⟩ := o3.is
          unfold maxLen at hcm3
          have hys : n3 ≤ 100000001 := by
            have h5 := vls_getD_len (spl 44 (beh 59 m))
            have h6 := spl_len 44 (beh 59 m)
            have h7 := hrd3.len
            omega
          generalize vls (spl 44 (beh 59 m)) = r at *
          have q1 := HB.out.later hb3
          have q2 := Lib.hid ((r2 _ _).out.later hb3)
          have q3 : Below w.heap.size w w3 := (b2 _ _).trans (hb3.mono (b2 _ _).size)
          have q4 : W1.heap.size + 2 ≤ w3.heap.size := by have := hb3.size; simpa using this
          have q5 := Lib.hid (show Rz w3 (W1.heap.size + 1) (.slice (some ⟨W1.heap.size, 0, none⟩) 1 1) from ⟨q1.cell, q1.free⟩)
          have q6 := Lib.hid q1.own
          have q7 := q1.cell
          have q8 := q1.free
          clear q1 HB hb3 r2 b2 hz1 o3 r1 b1 H2 H3
          cases r with
          | none =>
            have Hr := Lib.hid (show pbB (L s) = ([], 6) by unfold pbB; rw [hE.out]; rfl)
            go_wp2_with (at_builtin; refine wp_append_ints_at rfl _ _ rfl W1.heap.size _ [z] rfl q6.out w3.heap.size A3 n3 c3 [] rfl hrd3 (by simp; omega) (by omega) ?_)
            intro v' w4 hown4 hgrow hat
            have hown5 : w4.ownsRow W1.heap.size 2 1 v' 1 [Value.int .i64 z] := hown4
            obtain ⟨A4, c4, rfl, _, _⟩ := own_shape hown5
            have x1 := q5.out.grown hgrow (fun k e => by simp [Value.ownBlock] at e; omega)
            have x2 := q2.out.grown hgrow (fun k e => by simp [Value.ownBlock] at e; omega)
            have x3 : Below w.heap.size w w4 := q3.grown hgrow q3.size (fun k e => by simp [Value.ownBlock] at e; omega)
            have x4 := Lib.hid (res_none (x2.far (d := W1.heap.size + 1) (by omega) (.slice A4 1 c4)).1 (Nat.le_refl _) (x3.setCell (p := ⟨W1.heap.size + 1, 0, none⟩) (by show w.heap.size ≤ W1.heap.size + 1; omega) _))
            have x5 := x4.out.1
            have x6 := x1.1
            have x7 := x1.2
            have x8 := x2.1
            have x9 := x2.2
            clear hown4 hown5 hgrow hat x1 x2
            go_wp2_with fail
            exact bodyPost_ret (v := .tuple #[.agg #[.slice none 0 0], .int .i64 6]) (by simp [results, Try.results5, go_sem, x5]) rfl (LiB.nil Hr.out x4.out.2)
          | some l =>
            have hrd3' : Rd w3 w3.heap.size A3 n3 l := hrd3
            go_wp2_with (at_builtin; refine wp_append_ints_at rfl _ _ rfl W1.heap.size _ [z] rfl q6.out w3.heap.size A3 n3 c3 l rfl hrd3' (by simp; omega) (by omega) ?_)
            intro v' w4 hown4 hgrow hat
            have hb4 : v'.ownBlock ≠ some (W1.heap.size + 1) := by
              rcases hat with e | e
              · rw [e]; simp [Value.ownBlock]
              · rw [e]; simp; omega
            have hown5 : w4.ownsRow W1.heap.size 2 1 v' (n3 + 1) (([z] ++ l).map (Value.int .i64)) := by rw [← hrd3'.len]; exact hown4
            clear hown4
            obtain ⟨A4, c4, rfl, hc4, hd4⟩ := own_shape hown5
            have x1 := q5.out.grown hgrow (fun k e => by simp [Value.ownBlock] at e; omega)
            have x2 := q2.out.grown hgrow (fun k e => by simp [Value.ownBlock] at e; omega)
            have x3 : Below w.heap.size w w4 := q3.grown hgrow q3.size (fun k e => by simp [Value.ownBlock] at e; omega)
            have y1 := own_set hown5 (W1.heap.size + 1) (.slice A4 (n3 + 1) c4) hb4
            have y2 := x2.far (d := W1.heap.size + 1) (by omega) (.slice A4 (n3 + 1) c4)
            have y3 : Below w.heap.size w (w4.setCell ⟨W1.heap.size + 1, 0, none⟩ (.slice A4 (n3 + 1) c4)) := x3.setCell (p := ⟨W1.heap.size + 1, 0, none⟩) (by show w.heap.size ≤ W1.heap.size + 1; omega) _
            have y4 : Rz (w4.setCell ⟨W1.heap.size + 1, 0, none⟩ (.slice A4 (n3 + 1) c4)) (W1.heap.size + 1) (.slice A4 (n3 + 1) c4) := x1.set _
            have hs4 : W1.heap.size + 2 ≤ (w4.setCell ⟨W1.heap.size + 1, 0, none⟩ (.slice A4 (n3 + 1) c4)).heap.size := by have := hgrow.size; simp; omega
            have x6 := x1.1
            have x7 := x1.2
            have Y1 : Hid (Ow (w4.setCell ⟨W1.heap.size + 1, 0, none⟩ (.slice A4 (n3 + 1) c4)) W1.heap.size (w4.setCell ⟨W1.heap.size + 1, 0, none⟩ (.slice A4 (n3 + 1) c4)).heap.size (.slice A4 (n3 + 1) c4) ([z] ++ l)) := Lib.hid (Ow.of_own y1)
            have Y2 := Lib.hid y2
            have Y4 := Lib.hid y4
            have hcv := y4.1
            clear hown5 hgrow hat x1 x2 y1 y2 y4
            have Y3 := Lib.hid y3
            have HS4 := Lib.hid hs4
            clear y3 hs4
            have HI5 := Lib.hid (Y1.out.is)
            clear hrd3 hrd3' q2 q3 q4 q5 q6 q7 q8 x3 hb4
            go_wp2_with fail
            refine (IsBranch_any _ _ ([z] ++ l) _ HI5.out (Nat.le_refl _)).mono ?_
            rintro e w6 ⟨rfl, hb6⟩
            have z1 := Y2.out.later hb6
            have z2 := Y1.out.later hb6
            have z3 := Y4.out.later hb6
            have z4 := Y3.out.trans (hb6.mono Y3.out.size)
            have z5 := HS4.out
            have z6 := hb6.size
            clear Y1 Y2 Y3 Y4 HS4 HI5 hb6 hcv x6 x7
            have u1 := z1.1
            have u2 := z1.2
            have u3 := z3.1
            cases hbr : isBr ([z] ++ l)
            · have Hr := Lib.hid (show pbB (L s) = ([], 6) by unfold pbB; rw [hE.out]; show (if isBr (z :: l) then _ else _) = _; rw [show isBr (z :: l) = false from hbr]; rfl)
              have u4 := Lib.hid (res_none z1.1 (Nat.le_refl _) z4)
              have u5 := u4.out.1
              clear z1 z2 z3 z4 z5 z6
              go_wp2_with fail
              exact bodyPost_ret (v := .tuple #[.agg #[.slice none 0 0], .int .i64 6]) (by simp [results, Try.results5, go_sem, u5]) rfl (LiB.nil Hr.out u4.out.2)
            · have Hr := Lib.hid (show pbB (L s) = (z :: l, 0) by unfold pbB; rw [hE.out]; show (if isBr (z :: l) then _ else _) = _; rw [show isBr (z :: l) = true from hbr]; rfl)
              have u4 := Lib.hid (res_out2 z2 (by omega) z6 z1.1 (Nat.le_refl _) z4)
              have u5 := u4.out.1
              clear z1 z2 z3 z4 z5 z6
              go_wp2_with fail
              exact bodyPost_ret (v := .tuple #[.agg #[.slice A4 (n3 + 1) c4], .int .i64 0]) (by simp [results, Try.results5, go_sem, u5]) rfl ⟨_, by rw [Hr.out], by rw [Hr.out]; exact u4.out.2.1, u4.out.2.2⟩
end WW
end Go.Proofs.Ytgjkbmeafdgfeaa
