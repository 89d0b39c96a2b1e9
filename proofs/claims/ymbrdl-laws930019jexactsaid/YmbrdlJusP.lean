/-
  Justified lines: plain facts.
-/
import Derived.Test.YmbrdlSpaces
import Derived.Test.YmbrdlAlign
import Derived.Test.YmbrdlJoinP
set_option linter.unusedSimpArgs false
set_option linter.unusedVariables false
namespace Go.Proofs.Ymbrdl

/-- The first k words with the gaps behind them: 1 + sh spaces behind each of the first g, one more behind each of the first wd. -/
def jpre (ss : List ByteArray) (g sh wd : Nat) : Nat → List UInt8
  | 0 => []
  | k + 1 => jpre ss g sh wd k ++ (match ss[k]? with
    | some s => s.data.toList ++ spaces (if k < g then 1 + sh else 0) ++ spaces (if k < wd then 1 else 0)
    | .none => [])
theorem jpre_succ {ss : List ByteArray} {g sh wd k : Nat} {s : ByteArray} (h : ss[k]? = some s) : jpre ss g sh wd (k + 1) = jpre ss g sh wd k ++ s.data.toList ++ spaces (if k < g then 1 + sh else 0) ++ spaces (if k < wd then 1 else 0) := by
  rw [jpre, h]; simp
theorem jpre_length (ss : List ByteArray) (g sh wd : Nat) : ∀ k, k ≤ ss.length → (jpre ss g sh wd k).length = szs (ss.take k) + min k g * (1 + sh) + min k wd
  | 0, _ => by simp [jpre, szs]
  | k + 1, hk => by
    have hs : ss[k]? = some (ss[k]'(by omega)) := List.getElem?_eq_getElem _
    have hl : (ss[k]'(by omega)).data.toList.length = (ss[k]'(by omega)).size := by simp
    rw [jpre_succ hs, szs_take_succ hs, List.length_append, List.length_append, List.length_append, jpre_length ss g sh wd k (by omega), spaces_length, spaces_length, hl]
    have e1 : min (k + 1) g * (1 + sh) = min k g * (1 + sh) + (if k < g then 1 + sh else 0) := by
      split
      · rw [Nat.min_eq_left (by omega), Nat.min_eq_left (by omega), Nat.add_mul]; omega
      · rw [Nat.min_eq_right (by omega), Nat.min_eq_right (by omega)]; omega
    have e2 : min (k + 1) wd = min k wd + (if k < wd then 1 else 0) := by split <;> omega
    omega

/-- Justify, on bytes. -/
def jusL (ss : List ByteArray) (width : Nat) : List UInt8 :=
  if ss.length < 2 then alignL (wordsL ss) width 0
  else jpre ss (ss.length - 1) ((width - jlen ss) / (ss.length - 1)) ((width - jlen ss) % (ss.length - 1)) ss.length
theorem jusL_length {ss : List ByteArray} {width : Nat} (h : jlen ss ≤ width) : (jusL ss width).length = width := by
  unfold jusL
  split
  · exact alignL_length _ _ _ (by rw [wordsL_length]; exact h)
  · rename_i h2
    rw [jpre_length _ _ _ _ _ (Nat.le_refl _), List.take_length]
    have hm := Nat.mod_lt (width - jlen ss) (show 0 < ss.length - 1 by omega)
    have hd := Nat.div_add_mod (width - jlen ss) (ss.length - 1)
    rw [Nat.min_eq_right (by omega), Nat.min_eq_right (by omega), Nat.mul_add, Nat.mul_one]
    generalize (ss.length - 1) * ((width - jlen ss) / (ss.length - 1)) = q at *
    have hj : jlen ss = szs ss + (ss.length - 1) := rfl
    omega
end Go.Proofs.Ymbrdl
