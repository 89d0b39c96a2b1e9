/-
  Filled texts: plain facts.
-/
import Derived.Test.YmbrdlJusP
import Derived.Test.YmbrdlWrapP
import Derived.Test.YmbrdlFields
set_option linter.unusedSimpArgs false
set_option linter.unusedVariables false
namespace Go.Proofs.Ymbrdl

theorem textsF_inj : ∀ {a b : List ByteArray}, textsF a = textsF b → a = b
  | [], [], _ => rfl
  | [], y :: b, h => by simp [textsF] at h
  | x :: a, [], h => by simp [textsF] at h
  | x :: a, y :: b, h => by
    have h1 : x.data.toList = y.data.toList ∧ textsF a = textsF b := by simpa [textsF] using h
    rw [WideShapes.bytes_inj h1.1, textsF_inj h1.2]

/-- The words of a text. -/
def wsOf (t : List UInt8) : List ByteArray := (fieldsGo [] t).map fun l => ⟨l.toArray⟩
theorem textsF_wsOf (t : List UInt8) : textsF (wsOf t) = fieldsGo [] t := by
  unfold textsF wsOf
  rw [List.map_map]
  simp [Function.comp_def]
theorem wsOf_eq {ps : List ByteArray} {t : List UInt8} (h : textsF ps = fieldsGo [] t) : ps = wsOf t := textsF_inj (by rw [h, textsF_wsOf])

/-- One line of Fill: 'more' says that another follows. -/
def lineL (W : Nat) (mode : Int) (more : Bool) (l : List ByteArray) : List UInt8 :=
  if mode = 3 then (if more then jusL l W else alignL (wordsL l) W 0) else alignL (wordsL l) W mode
theorem lineL_length {W : Nat} {l : List ByteArray} (mode : Int) (more : Bool) (h : jlen l ≤ W) : (lineL W mode more l).length = W := by
  unfold lineL
  split
  · split
    · exact jusL_length h
    · exact alignL_length _ _ _ (by rw [wordsL_length]; exact h)
  · exact alignL_length _ _ _ (by rw [wordsL_length]; exact h)
/-- The first k lines. -/
def fillPre (W : Nat) (mode : Int) (L : List (List ByteArray)) : Nat → List (List UInt8)
  | 0 => []
  | k + 1 => fillPre W mode L k ++ (match L[k]? with
    | some l => [lineL W mode (decide (k + 1 < L.length)) l]
    | .none => [])
theorem fillPre_succ {W : Nat} {mode : Int} {L : List (List ByteArray)} {k : Nat} {l : List ByteArray} (h : L[k]? = some l) : fillPre W mode L (k + 1) = fillPre W mode L k ++ [lineL W mode (decide (k + 1 < L.length)) l] := by
  rw [fillPre, h]
def glue (xs : List (List UInt8)) : List UInt8 := xs.flatMap fun x => x ++ [10]
theorem linesL_glue (ss : List ByteArray) : linesL ss = glue (textsF ss) := by
  unfold linesL glue textsF
  rw [List.flatMap_map]
/-- Fill, from the lines of words. -/
def fillL (W : Nat) (mode : Int) (L : List (List ByteArray)) : List UInt8 := glue (fillPre W mode L L.length)

theorem GP.len_le {width : Int} : ∀ {L : List (List ByteArray)}, GP L width L.length → L.length ≤ L.flatten.length
  | [], _ => Nat.le_refl _
  | l :: R, h => by
    have h1 := GP.len_le h.tail
    have h2 := List.length_pos_iff.2 h.head.1
    rw [List.flatten_cons, List.length_append, List.length_cons]
    omega
theorem szs_const {W : Nat} : ∀ (out : List ByteArray), (∀ x ∈ out, x.size = W) → szs out = out.length * W
  | [], _ => by simp [szs]
  | s :: t, h => by
    have e2 : szs (s :: t) = s.size + szs t := by simp [szs]
    rw [e2, szs_const t (fun x hx => h x (by simp [hx])), h s (by simp), List.length_cons, Nat.add_mul]
    omega
end Go.Proofs.Ymbrdl
