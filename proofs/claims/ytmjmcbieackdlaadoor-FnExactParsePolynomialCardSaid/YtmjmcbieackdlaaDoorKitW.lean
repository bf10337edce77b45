/-
  WORDS FOR TEXTS: a string by its bytes; a slice of strings of the call's own; append of one string more.
-/
import Derived.Test.YtmjmcbieackdlaaDoorKitS
import Derived.Test.YtmjmcbieackdlaaDoorPlW
import Derived.Laws.IdiomStrings
import Derived.Laws.Concat
namespace Go.Proofs.YtmjmcbieackdlaaDoor
open Go.RowKit Go.ChangeShapes Go.WideShapes Go.Joins Go.Deep
set_option linter.unusedVariables false
namespace K
open Pl
/-- The string with these bytes. No reducible name. -/
def S (l : List UInt8) : ByteArray := ⟨l.toArray⟩
/-- The bytes of a string. No reducible name. -/
def L (s : ByteArray) : List UInt8 := s.data.toList
theorem L_S (l : List UInt8) : L (S l) = l := rfl
theorem S_L (s : ByteArray) : S (L s) = s := by cases s; simp only [S, L, Array.toArray_toList]
theorem S_size (l : List UInt8) : (S l).size = l.length := List.size_toArray
theorem L_len (s : ByteArray) : (L s).length = s.size := Array.length_toList
theorem S_ext {s t : ByteArray} (h : L s = L t) : s = t := by rw [← S_L s, ← S_L t, h]
theorem L_extract (s : ByteArray) (a b : Nat) : L (s.extract a b) = ((L s).drop a).take (b - a) := by
  conv => lhs; rw [← S_L s]
  unfold S; rw [ByteArray.extract_mk]; rfl
theorem L_append (s t : ByteArray) : L (s ++ t) = L s ++ L t := by simp [L, ByteArray.data_append]
theorem S_append (a b : List UInt8) : S a ++ S b = S (a ++ b) := S_ext (by rw [L_append, L_S, L_S, L_S])
theorem S_inj {a b : List UInt8} (h : S a = S b) : a = b := by have := congrArg L h; simpa [L_S] using this
theorem L_at (s : ByteArray) (k : Nat) (h : k < s.size) : s[k] = bx (L s) k := by rw [bx_eq _ _ (by rw [L_len]; exact h)]; rfl
/-- A byte as the walk spells it. -/
theorem L_nat (s : ByteArray) (k : Nat) (h : k < s.size) : ((s[k]).toNat : Int) = ((bx (L s) k).toNat : Int) := by rw [L_at s k h]
theorem toList_L (s : ByteArray) : s.toList = L s := ByteArray.toList_eq s
theorem bytes_ne {c d : UInt8} (h : c ≠ d) : ((c.toNat : Int) == (d.toNat : Int)) = false := by
  simp only [beq_eq_false_iff_ne, ne_eq]
  intro e; exact h (UInt8.toNat_inj.1 (by omega))
theorem beqT {a b : Int} (h : a = b) : (a == b) = true := by simp [h]
theorem beqF {a b : Int} (h : a ≠ b) : (a == b) = false := by simp [h]
theorem ret_s {a b : ByteArray} (h : a = b) : Ending.returned (.string a) = .returned (.string b) := by rw [h]

/-! ### slices of strings -/
def sv (l : List UInt8) : Value := .string (S l)
def gs (ss : List (List UInt8)) (i : Nat) : List UInt8 := ss.getD i []
theorem gs_eq (ss : List (List UInt8)) (i : Nat) (h : i < ss.length) : gs ss i = ss[i] := by simp [gs, List.getD, h]
theorem gs_mem (ss : List (List UInt8)) (i : Nat) (h : i < ss.length) : gs ss i ∈ ss := by rw [gs_eq ss i h]; exact List.getElem_mem h
theorem gs_take (ss : List (List UInt8)) (i : Nat) (h : i < ss.length) : ss.take (i + 1) = ss.take i ++ [gs ss i] := by
  rw [List.take_succ_eq_append_getElem h, gs_eq ss i h]
theorem map_sv (ss : List (List UInt8)) (j : Nat) (h : j < ss.length) : (ss.map sv)[j]? = some (sv (gs ss j)) := by
  rw [List.getElem?_map, List.getElem?_eq_getElem h, gs_eq ss j h]; rfl
end K
end Go.Proofs.YtmjmcbieackdlaaDoor
