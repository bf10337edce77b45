/-
  WORDS FOR TEXTS: a string by its bytes; a slice of strings of the call's own; append of one string more.
-/
import Derived.Test.YtdfhkkngbpidaaaDoorKitS
import Derived.Test.YtdfhkkngbpidaaaDoorPlW
import Derived.Laws.IdiomStrings
import Derived.Laws.Concat
namespace Go.Proofs.YtdfhkkngbpidaaaDoor
open Go.RowKit Go.ChangeShapes Go.WideShapes Go.Joins Go.Deep
set_option linter.unusedVariables false
namespace K
open Pl
/-- The string with these bytes. No reducible name. -/
def S (l : List UInt8) : ByteArray := ⟨l.toArray⟩
/-- The bytes of a string. No reducible name. -/
def L (s : ByteArray) : List UInt8 := s.data.toList
theorem L_S (l : List UInt8) : L (S l) = l := rfl
theorem S_L (s : ByteArray) : S (L s) = s := by cases s; simp only [S, L, Array.toArray_toList]
theorem S_size (l : List UInt8) : (S l).size = l.length := List.size_toArray
theorem L_len (s : ByteArray) : (L s).length = s.size := Array.length_toList
theorem S_ext {s t : ByteArray} (h : L s = L t) : s = t := by rw [← S_L s, ← S_L t, h]
theorem L_extract (s : ByteArray) (a b : Nat) : L (s.extract a b) = ((L s).drop a).take (b - a) := by
  conv => lhs; rw [← S_L s]
  unfold S; rw [ByteArray.extract_mk]; rfl
theorem L_append (s t : ByteArray) : L (s ++ t) = L s ++ L t := by simp [L, ByteArray.data_append]
theorem S_append (a b : List UInt8) : S a ++ S b = S (a ++ b) := S_ext (by rw [L_append, L_S, L_S, L_S])
theorem S_inj {a b : List UInt8} (h : S a = S b) : a = b := by have := congrArg L h; simpa [L_S] using this
theorem L_at (s : ByteArray) (k : Nat) (h : k < s.size) : s[k] = bx (L s) k := by rw [bx_eq _ _ (by rw [L_len]; exact h)]; rfl
/-- A byte as the walk spells it. -/
theorem L_nat (s : ByteArray) (k : Nat) (h : k < s.size) : ((s[k]).toNat : Int) = ((bx (L s) k).toNat : Int) := by rw [L_at s k h]
theorem toList_L (s : ByteArray) : s.toList = L s := ByteArray.toList_eq s
theorem bytes_ne {c d : UInt8} (h : c ≠ d) : ((c.toNat : Int) == (d.toNat : Int)) = false := by
  simp only [beq_eq_false_iff_ne, ne_eq]
  intro e; exact h (UInt8.toNat_inj.1 (by omega))
theorem beqT {a b : Int} (h : a = b) : (a == b) = true := by simp [h]
theorem beqF {a b : Int} (h : a ≠ b) : (a == b) = false := by simp [h]
theorem ret_s {a b : ByteArray} (h : a = b) : Ending.returned (.string a) = .returned (.string b) := by rw [h]

/-! ### slices of strings -/
def sv (l : List UInt8) : Value := .string (S l)
def gs (ss : List (List UInt8)) (i : Nat) : List UInt8 := ss.getD i []
theorem gs_eq (ss : List (List UInt8)) (i : Nat) (h : i < ss.length) : gs ss i = ss[i] := by simp [gs, List.getD, h]
theorem gs_mem (ss : List (List UInt8)) (i : Nat) (h : i < ss.length) : gs ss i ∈ ss := by rw [gs_eq ss i h]; exact List.getElem_mem h
theorem gs_take (ss : List (List UInt8)) (i : Nat) (h : i < ss.length) : ss.take (i + 1) = ss.take i ++ [gs ss i] := by
  rw [List.take_succ_eq_append_getElem h, gs_eq ss i h]
theorem map_sv (ss : List (List UInt8)) (j : Nat) (h : j < ss.length) : (ss.map sv)[j]? = some (sv (gs ss j)) := by
  rw [List.getElem?_map, List.getElem?_eq_getElem h, gs_eq ss j h]; rfl
/-- What a call owns: a slice of strings. -/
def OwS (w : World) (lo hi : Nat) (v : Value) (ss : List (List UInt8)) : Prop := w.ownsRow lo 9 1 v ss.length (ss.map sv) ∧ ∀ k, v.ownBlock = some k → k < hi
/-- A value that is a slice of strings. -/
def IsS (w : World) (B : Nat) (v : Value) (ss : List (List UInt8)) : Prop := ∃ A c, v = .slice A ss.length c ∧ ss.length ≤ c ∧ c ≤ maxLen ∧ (0 < ss.length → ∃ ad, A = some ad ∧ ad.block < B ∧ ∀ j, j < ss.length → w.cell? (ad.add j) = some (.string (S (gs ss j))))
section
variable {w w' : World} {lo hi lo' hi' B B' : Nat} {v : Value} {ss : List (List UInt8)}
theorem OwS.keep (h : OwS w lo hi v ss) (hc : Chg lo' hi' w w') (hd : hi ≤ lo' ∨ hi' ≤ lo) : OwS w' lo hi v ss := ⟨own_keep h.1 h.2 hc hd, h.2⟩
theorem OwS.later (h : OwS w lo hi v ss) (hb : Below w.heap.size w w') : OwS w' lo hi v ss := h.keep (Chg.of_below hb) (.inr (Nat.zero_le _))
theorem OwS.alloc (h : OwS w lo hi v ss) (o : Obj) : OwS (w.alloc o) lo hi v ss := ⟨h.1.alloc o, h.2⟩
theorem OwS.wide (h : OwS w lo hi v ss) (h1 : lo' ≤ lo) (h2 : hi ≤ hi') : OwS w lo' hi' v ss := ⟨own_base h.1 h1, fun k hk => Nat.lt_of_lt_of_le (h.2 k hk) h2⟩
theorem IsS.below (h : IsS w B v ss) (hb : Below B w w') : IsS w' B v ss := by
  obtain ⟨A, c, e, h1, h2, h3⟩ := h
  refine ⟨A, c, e, h1, h2, fun hn => ?_⟩
  obtain ⟨ad, ea, hl, hc⟩ := h3 hn
  exact ⟨ad, ea, hl, fun j hj => (hb.cell (by rw [block_of_add]; exact hl)).trans (hc j hj)⟩
theorem IsS.more (h : IsS w B v ss) (hB : B ≤ B') : IsS w B' v ss := by
  obtain ⟨A, c, e, h1, h2, h3⟩ := h
  refine ⟨A, c, e, h1, h2, fun hn => ?_⟩
  obtain ⟨ad, ea, hl, hc⟩ := h3 hn
  exact ⟨ad, ea, by omega, hc⟩
theorem OwS.is (h : OwS w lo hi v ss) : IsS w w.heap.size v ss := by
  have hcells := fun g hg => h.1.cells (g := g) hg
  have hlt := h.1.lt
  rcases h.1.2 with ⟨rfl, h0⟩ | ⟨g, cap, cur, rfl, _, _, hc, hm, _⟩
  · exact ⟨none, 0, by rw [h0], by omega, by unfold maxLen; omega, fun h => by omega⟩
  · exact ⟨_, cap, rfl, hc, hm, fun _ => ⟨_, rfl, (hlt g rfl).2, fun j hj => hcells g rfl j _ (map_sv ss j hj)⟩⟩
theorem OwS.of_own {n : Nat} (h : w.ownsRow lo 9 1 v n (ss.map sv)) : OwS w lo w.heap.size v ss := by
  have hl : n = ss.length := by have := h.1; simp at this; omega
  subst hl
  exact ⟨h, fun k hk => (h.lt k hk).2⟩
end
theorem infoStr : (Tryd.prog.info? 9).map (fun i => (i.zero, i.size, i.bytes)) = some (some (.string ⟨#[]⟩), 1, 16) := by kernel_rfl
/-- 'words = append(words, word)'. -/
theorem wp_append_str {w : World} {ops : Array Oper} {rest : List Oper} {o : Oper} {a : Act} {Q : Exit → Act → World → Prop} (hgd : o.guard = none) (s x : Operand)
    (ho : o.op = .call { callee := .builtin .append, args := #[s, x], argTypes := #[49, 49] })
    (lo : Nat) (v : Value) (ss : List (List UInt8)) (hs : a.eval s = v) (hown : w.ownsRow lo 9 1 v ss.length (ss.map sv))
    (g : Nat) (y : ByteArray) (c : Nat) (hx : a.eval x = .slice (some ⟨g, 0, none⟩) 1 c) (hc : w.cell? ⟨g, 0, none⟩ = some (.string y)) (hn : ss.length < 8000000000000) (hbase : lo ≤ w.heap.size)
    (h : ∀ v' w', w'.ownsRow lo 9 1 v' (ss ++ [L y]).length ((ss ++ [L y]).map sv) → w.grownBy w' v.ownBlock → wpList Tryd.prog ops Q rest (a.put o.dst v') w') : wpList Tryd.prog ops Q (o :: rest) a w := by
  obtain ⟨i0, hi, hz0, hz1, hz2⟩ := info_parts infoStr
  refine wpList_append_own (P := Tryd.prog) w hgd s x 49 ho lo 9 i0 (.string ⟨#[]⟩) 1 16 Tryd.underlying49 hi hz0 hz1 hz2 rfl (by decide) v ss.length _ hs hown ⟨g, 0, none⟩ 1 c [.string y] hx rfl ?_ ?_ (by unfold maxLen; omega) (by omega) hbase ?_
  · intro j u hj
    match j, hj with
    | 0, hj => simp at hj; subst hj; simpa [Addr.add] using hc
  · intro u hu; simp at hu; subst hu; rfl
  · intro v' w' h1 h2 _
    refine h v' w' ?_ h2
    rw [List.length_append, List.map_append]
    have e : [L y].map sv = [.string y] := by simp [sv, S_L]
    rw [e]; exact h1
end K
end Go.Proofs.YtdfhkkngbpidaaaDoor
