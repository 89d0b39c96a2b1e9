/-
  Joined texts: plain facts.
-/
import Derived.Test.YmbrdlRoomP
set_option linter.unusedSimpArgs false
set_option linter.unusedVariables false
namespace Go.Proofs.Ymbrdl

/-- JoinLines, on bytes. -/
def linesL (ss : List ByteArray) : List UInt8 := ss.flatMap fun s => s.data.toList ++ [10]
theorem linesL_append (a b : List ByteArray) : linesL (a ++ b) = linesL a ++ linesL b := by simp [linesL]
theorem linesL_one (s : ByteArray) : linesL [s] = s.data.toList ++ [10] := by simp [linesL]
theorem linesL_take_succ {ss : List ByteArray} {k : Nat} {s : ByteArray} (h : ss[k]? = some s) : linesL (ss.take (k + 1)) = linesL (ss.take k) ++ s.data.toList ++ [10] := by
  rw [List.take_add_one, h, linesL_append]; simp [linesL]
theorem linesL_length (ss : List ByteArray) : (linesL ss).length = szs ss + ss.length := by
  induction ss with
  | nil => rfl
  | cons s t ih =>
    have e : linesL (s :: t) = s.data.toList ++ [10] ++ linesL t := by simp [linesL]
    have e2 : szs (s :: t) = s.size + szs t := by simp [szs]
    rw [e, List.length_append, List.length_append, ih, e2, List.length_cons]
    simp; omega

/-- JoinWords, on bytes. -/
def wordsL : List ByteArray → List UInt8
  | [] => []
  | s :: t => s.data.toList ++ t.flatMap fun x => 32 :: x.data.toList
theorem wordsL_snoc (l : List ByteArray) (x : ByteArray) : wordsL (l ++ [x]) = wordsL l ++ ((if l.length = 0 then [] else [32]) ++ x.data.toList) := by
  cases l with
  | nil => simp [wordsL]
  | cons s t => simp [wordsL]
theorem wordsL_take_succ {ss : List ByteArray} {k : Nat} {s : ByteArray} (h : ss[k]? = some s) : wordsL (ss.take (k + 1)) = wordsL (ss.take k) ++ ((if k = 0 then [] else [32]) ++ s.data.toList) := by
  have hk := lt_of_get h
  have e : ss.take (k + 1) = ss.take k ++ [s] := by rw [List.take_add_one, h]; rfl
  rw [e, wordsL_snoc, List.length_take, Nat.min_eq_left (by omega)]
theorem flat32_length (t : List ByteArray) : (t.flatMap fun x => 32 :: x.data.toList).length = szs t + t.length := by
  induction t with
  | nil => rfl
  | cons s t ih =>
    have e2 : szs (s :: t) = s.size + szs t := by simp [szs]
    rw [List.flatMap_cons, List.length_append, ih, e2, List.length_cons, List.length_cons]
    simp; omega
theorem wordsL_length (ss : List ByteArray) : (wordsL ss).length = jlen ss := by
  cases ss with
  | nil => rfl
  | cons s t =>
    have e2 : szs (s :: t) = s.size + szs t := by simp [szs]
    unfold jlen
    rw [wordsL, List.length_append, flat32_length, e2, List.length_cons]
    simp; omega
end Go.Proofs.Ymbrdl
