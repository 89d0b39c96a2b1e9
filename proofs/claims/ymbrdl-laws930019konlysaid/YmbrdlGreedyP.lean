/-
  Greedy breakings: plain facts.
-/
import Derived.Test.YmbrdlRoomP
set_option linter.unusedSimpArgs false
set_option linter.unusedVariables false
namespace Go.Proofs.Ymbrdl

/-- The first k lines are greedy for the width. -/
def GP (L : List (List ByteArray)) (width : Int) (k : Nat) : Prop :=
  (∀ (j : Nat) l, j < k → L[j]? = some l → l ≠ [] ∧ (jlen l : Int) ≤ width) ∧
  (∀ (j : Nat) l l' (s : ByteArray), j + 1 < k → L[j]? = some l → L[j + 1]? = some l' → l'[0]? = some s → width < (jlen l : Int) + 1 + s.size)

theorem GP.zero (L : List (List ByteArray)) (width : Int) : GP L width 0 := ⟨fun j l h => absurd h (Nat.not_lt_zero _), fun j l l' s h => absurd h (Nat.not_lt_zero _)⟩
theorem GP.mono {L : List (List ByteArray)} {width : Int} {k k' : Nat} (h : GP L width k) (hk : k' ≤ k) : GP L width k' :=
  ⟨fun j l hj => h.1 j l (by omega), fun j l l' s hj => h.2 j l l' s (by omega)⟩
theorem GP.step {L : List (List ByteArray)} {width : Int} {k : Nat} {line : List ByteArray} (h : GP L width k) (hl : L[k]? = some line) (h1 : line ≠ []) (h2 : (jlen line : Int) ≤ width)
    (h3 : ∀ l s, 0 < k → L[k - 1]? = some l → line[0]? = some s → width < (jlen l : Int) + 1 + s.size) : GP L width (k + 1) := by
  refine ⟨fun j l hj hjl => ?_, fun j l l' s hj hjl hjl' hs => ?_⟩
  · by_cases hjk : j < k
    · exact h.1 j l hjk hjl
    · obtain rfl : j = k := by omega
      rw [hl] at hjl
      obtain rfl := Option.some.inj hjl
      exact ⟨h1, h2⟩
  · by_cases hjk : j + 1 < k
    · exact h.2 j l l' s hjk hjl hjl' hs
    · obtain rfl : k = j + 1 := by omega
      rw [hl] at hjl'
      obtain rfl := Option.some.inj hjl'
      exact h3 l s (by omega) (by simpa using hjl) hs
theorem GP.no_first {L : List (List ByteArray)} {width : Int} {k n : Nat} {line : List ByteArray} (hl : L[k]? = some line) (hn : k < n) (h : line = [] ∨ width < (jlen line : Int)) : ¬ GP L width n := by
  intro hg
  obtain ⟨h1, h2⟩ := hg.1 k line hn hl
  rcases h with h | h
  · exact h1 h
  · omega
theorem GP.no_second {L : List (List ByteArray)} {width : Int} {k n : Nat} {l l' : List ByteArray} {s : ByteArray} (hl : L[k]? = some l) (hl' : L[k + 1]? = some l') (hs : l'[0]? = some s) (hn : k + 1 < n) (h : (jlen l : Int) + 1 + s.size ≤ width) : ¬ GP L width n := by
  intro hg
  have := hg.2 k l l' s hn hl hl' hs
  omega
/-- It returned the truth value of p. -/
def RetB (e : Ending) (p : Prop) : Prop := ∃ b : Bool, e = .returned (.bool b) ∧ (b = true ↔ p)
theorem retB_false {p : Prop} (h : ¬ p) : RetB (.returned (.bool false)) p := ⟨false, rfl, by simp [h]⟩
theorem retB_true {p : Prop} (h : p) : RetB (.returned (.bool true)) p := ⟨true, rfl, by simp [h]⟩
theorem RetB.out {e : Ending} {p : Prop} (h : RetB e p) : ∃ b : Bool, e = .returned (.bool b) ∧ (b = true ↔ p) := h
theorem jlen_pos_nil : jlen [] = 0 := rfl
end Go.Proofs.Ymbrdl
