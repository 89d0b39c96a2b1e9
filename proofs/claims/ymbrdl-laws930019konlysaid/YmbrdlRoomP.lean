/-
  Joined lengths: plain facts.
-/
import Derived.WalkKit
import Derived.Test.YmbrdlPlain
set_option linter.unusedSimpArgs false
set_option linter.unusedVariables false
namespace Go.Proofs.Ymbrdl

def szs (ss : List ByteArray) : Nat := (ss.map ByteArray.size).sum
/-- The length of the words joined by single spaces. -/
def jlen (ss : List ByteArray) : Nat := szs ss + (ss.length - 1)
def roomOk (ss : List ByteArray) (width : Int) : Bool := decide ((jlen ss : Int) ≤ width)
def roomV (ss : List ByteArray) (width : Int) : Int := if (jlen ss : Int) ≤ width then width - jlen ss else 0

theorem szs_append (a b : List ByteArray) : szs (a ++ b) = szs a + szs b := by simp [szs]
theorem szs_take_succ {ss : List ByteArray} {k : Nat} {s : ByteArray} (h : ss[k]? = some s) : szs (ss.take (k + 1)) = szs (ss.take k) + s.size := by
  rw [List.take_add_one, h, szs_append]; simp [szs]
theorem lt_of_get {α : Type} {l : List α} {k : Nat} {x : α} (h : l[k]? = some x) : k < l.length := (List.getElem?_eq_some_iff.1 h).1
theorem jlen_take_succ {ss : List ByteArray} {k : Nat} {s : ByteArray} (h : ss[k]? = some s) : jlen (ss.take (k + 1)) = jlen (ss.take k) + s.size + (if k = 0 then 0 else 1) := by
  have hk := lt_of_get h
  unfold jlen
  rw [szs_take_succ h, List.length_take, List.length_take]
  split <;> omega
theorem szs_take_le (ss : List ByteArray) (k : Nat) : szs (ss.take k) ≤ szs ss := by
  have := szs_append (ss.take k) (ss.drop k)
  rw [List.take_append_drop] at this; omega
theorem jlen_take_le (ss : List ByteArray) (k : Nat) : jlen (ss.take k) ≤ jlen ss := by
  have := szs_take_le ss k
  unfold jlen; rw [List.length_take]; omega
theorem room_no {ss : List ByteArray} {k : Nat} {width : Int} (h : width < jlen (ss.take k)) : roomOk ss width = false ∧ roomV ss width = 0 := by
  have := jlen_take_le ss k
  unfold roomOk roomV
  rw [if_neg (by omega)]
  exact ⟨by simp; omega, rfl⟩
theorem room_yes {ss : List ByteArray} {width : Int} (h : (jlen ss : Int) ≤ width) : roomOk ss width = true ∧ roomV ss width = width - jlen ss := by
  unfold roomOk roomV
  rw [if_pos h]
  exact ⟨by simp; omega, rfl⟩
theorem ret_two {k : IntKind} {a b : Int} {p q : Bool} (h : a = b) (h' : p = q) : Ending.returned (.tuple #[.int k a, .bool p]) = .returned (.tuple #[.int k b, .bool q]) := by rw [h, h']
end Go.Proofs.Ymbrdl
