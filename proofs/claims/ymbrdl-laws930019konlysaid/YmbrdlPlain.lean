/-
  Plain facts on bytes, no Go in sight.
-/
import Derived.WalkKit
set_option linter.unusedSimpArgs false
set_option linter.unusedVariables false
namespace Go.Proofs.Ymbrdl

theorem hide {p : Prop} (h : p) : Go.RowKit.Hid p := h
theorem unhide {p : Prop} (h : Go.RowKit.Hid p) : p := h

/-- The four separators, on the number that a byte is. -/
def spB (n : Int) : Bool := n == 32 || n == 9 || n == 10 || n == 13
/-- The four separators, on a byte. -/
def isSp (c : UInt8) : Bool := spB (c.toNat : Int)
/-- The bytes that separate no words. -/
def plains (l : List UInt8) : List UInt8 := l.filter fun c => !isSp c
/-- IsWord. -/
def isWordB (l : List UInt8) : Bool := !l.isEmpty && l.all fun c => !isSp c

theorem plains_le (l : List UInt8) : (plains l).length ≤ l.length := List.length_filter_le _ _

theorem ret_int {k : IntKind} {a b : Int} (h : a = b) : Ending.returned (.int k a) = .returned (.int k b) := by rw [h]
theorem ret_bool {a b : Bool} (h : a = b) : Ending.returned (.bool a) = .returned (.bool b) := by rw [h]

theorem take_snoc (s : ByteArray) (k : Nat) (h : k < s.size) : s.data.toList.take (k + 1) = s.data.toList.take k ++ [s[k]] := by
  rw [List.take_succ_eq_append_getElem (by simpa using h)]; rfl
theorem drop_cons (s : ByteArray) (k : Nat) (h : k < s.size) : s.data.toList.drop k = s[k] :: s.data.toList.drop (k + 1) := by
  rw [List.drop_eq_getElem_cons (by simpa using h)]; rfl

theorem plains_cons (c : UInt8) (l : List UInt8) : plains (c :: l) = if isSp c then plains l else c :: plains l := by
  unfold plains; cases h : isSp c <;> simp [List.filter_cons, h]
theorem plains_len_cons (c : UInt8) (l : List UInt8) : ((plains (c :: l)).length : Int) = (plains l).length + if isSp c then 0 else 1 := by
  rw [plains_cons]; cases h : isSp c <;> simp

theorem all_iff_plains (l : List UInt8) : (l.all fun c => !isSp c) = ((plains l).length == l.length) := by
  induction l with
  | nil => rfl
  | cons c t ih =>
    have hl := plains_le t
    rw [plains_cons, List.all_cons, ih]
    cases h : isSp c
    · simp
    · simp; omega
end Go.Proofs.Ymbrdl
