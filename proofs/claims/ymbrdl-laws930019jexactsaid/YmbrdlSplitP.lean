/-
  Lines and fields of a text, on bytes: plain facts.
-/
import Derived.Test.YmbrdlPlain
set_option linter.unusedSimpArgs false
set_option linter.unusedVariables false
namespace Go.Proofs.Ymbrdl

/-- The lines of a text: cur is the line that is being read. -/
def splitGo : List UInt8 → List UInt8 → List (List UInt8)
  | cur, [] => if cur = [] then [] else [cur]
  | cur, c :: t => if c.toNat = 10 then cur :: splitGo [] t else splitGo (cur ++ [c]) t
/-- The fields of a text: cur is the word that is being read. -/
def fieldsGo : List UInt8 → List UInt8 → List (List UInt8)
  | cur, [] => if cur = [] then [] else [cur]
  | cur, c :: t => if isSp c then (if cur = [] then fieldsGo [] t else cur :: fieldsGo [] t) else fieldsGo (cur ++ [c]) t

theorem splitGo_nl (cur t : List UInt8) (c : UInt8) (h : c.toNat = 10) : splitGo cur (c :: t) = cur :: splitGo [] t := by rw [splitGo, if_pos h]
theorem splitGo_other (cur t : List UInt8) (c : UInt8) (h : c.toNat ≠ 10) : splitGo cur (c :: t) = splitGo (cur ++ [c]) t := by rw [splitGo, if_neg h]
theorem splitGo_end (cur : List UInt8) : splitGo cur [] = if cur = [] then [] else [cur] := by rw [splitGo]
theorem fieldsGo_sp (cur t : List UInt8) (c : UInt8) (h : isSp c = true) : fieldsGo cur (c :: t) = if cur = [] then fieldsGo [] t else cur :: fieldsGo [] t := by rw [fieldsGo, if_pos h]
theorem fieldsGo_other (cur t : List UInt8) (c : UInt8) (h : isSp c = false) : fieldsGo cur (c :: t) = fieldsGo (cur ++ [c]) t := by rw [fieldsGo, if_neg (by simp [h])]
theorem fieldsGo_end (cur : List UInt8) : fieldsGo cur [] = if cur = [] then [] else [cur] := by rw [fieldsGo]

/-- The piece of s from p to i. -/
def piece (s : ByteArray) (p i : Nat) : List UInt8 := (s.data.toList.drop p).take (i - p)
theorem piece_nil (s : ByteArray) (p : Nat) : piece s p p = [] := by simp [piece]
theorem piece_length (s : ByteArray) (p i : Nat) (h : i ≤ s.size) : (piece s p i).length = i - p := by
  unfold piece; rw [List.length_take, List.length_drop]
  have : s.data.toList.length = s.size := by simp
  omega
theorem piece_empty (s : ByteArray) (p i : Nat) (h : i ≤ s.size) (h1 : p ≤ i) : piece s p i = [] ↔ i = p := by
  rw [← List.length_eq_zero_iff, piece_length s p i h]; omega
theorem piece_succ (s : ByteArray) (p i : Nat) (h : p ≤ i) (hi : i < s.size) : piece s p (i + 1) = piece s p i ++ [s[i]] := by
  unfold piece
  have hl : s.data.toList.length = s.size := by simp
  rw [show i + 1 - p = (i - p) + 1 by omega, List.take_add_one, List.getElem?_drop, show p + (i - p) = i by omega, List.getElem?_eq_getElem (by omega)]
  rfl
theorem piece_extract (s : ByteArray) (p i : Nat) : (s.extract p i).data.toList = piece s p i := by
  unfold piece; simp [ByteArray.data_extract]
theorem piece_end (s : ByteArray) (p : Nat) : piece s p s.size = s.data.toList.drop p := by
  unfold piece
  rw [List.take_of_length_le]
  rw [List.length_drop]; simp
end Go.Proofs.Ymbrdl
