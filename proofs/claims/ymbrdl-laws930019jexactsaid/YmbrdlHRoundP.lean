/-
  Words laid out with gaps: plain facts.
-/
import Derived.Test.YmbrdlSplitP
set_option linter.unusedSimpArgs false
set_option linter.unusedVariables false
namespace Go.Proofs.Ymbrdl

def NoSp (w : List UInt8) : Prop := ∀ c ∈ w, isSp c = false
/-- Nothing follows, or a separator. -/
def Gap (X : List UInt8) : Prop := X = [] ∨ ∃ c Y, X = c :: Y ∧ isSp c = true

theorem fieldsGo_word {X : List UInt8} (hX : Gap X) : ∀ (w cur : List UInt8), NoSp w → cur ++ w ≠ [] → fieldsGo cur (w ++ X) = (cur ++ w) :: fieldsGo [] X
  | [], cur, _, hne => by
    rw [List.append_nil] at hne
    rw [List.nil_append, List.append_nil]
    rcases hX with rfl | ⟨c, Y, rfl, hc⟩
    · rw [fieldsGo_end, if_neg hne, fieldsGo_end, if_pos rfl]
    · rw [fieldsGo_sp _ _ _ hc, if_neg hne, fieldsGo_sp _ _ _ hc, if_pos rfl]
  | c :: w, cur, hn, hne => by
    have hc := hn c (by simp)
    rw [List.cons_append, fieldsGo_other _ _ _ hc, fieldsGo_word hX w (cur ++ [c]) (fun d hd => hn d (by simp [hd])) (by simp)]
    simp

/-- The text t holds the words ws, and is closed behind the last. -/
def Shut (t : List UInt8) (ws : List (List UInt8)) : Prop := ∀ X, fieldsGo [] (t ++ X) = ws ++ fieldsGo [] X
/-- The text t holds the words ws; the last may still be open. -/
def Pend (t : List UInt8) (ws : List (List UInt8)) : Prop := ∀ X, Gap X → fieldsGo [] (t ++ X) = ws ++ fieldsGo [] X

theorem Shut.nil : Shut [] [] := fun X => rfl
theorem Shut.pend {t : List UInt8} {ws : List (List UInt8)} (h : Shut t ws) : Pend t ws := fun X _ => h X
theorem Pend.sep {t : List UInt8} {ws : List (List UInt8)} {c : UInt8} (h : Pend t ws) (hc : isSp c = true) : Shut (t ++ [c]) ws := fun X => by
  rw [List.append_assoc, List.singleton_append, h _ (.inr ⟨c, X, rfl, hc⟩), fieldsGo_sp _ _ _ hc, if_pos rfl]
theorem Shut.word {t : List UInt8} {ws : List (List UInt8)} {w : List UInt8} (h : Shut t ws) (hn : NoSp w) (hne : w ≠ []) : Pend (t ++ w) (ws ++ [w]) := fun X hX => by
  rw [List.append_assoc, h, fieldsGo_word hX w [] hn (by simpa using hne)]
  simp
theorem Pend.fields {t : List UInt8} {ws : List (List UInt8)} (h : Pend t ws) : fieldsGo [] t = ws := by
  have := h [] (.inl rfl)
  rw [List.append_nil] at this
  rw [this, fieldsGo_end, if_pos rfl, List.append_nil]
end Go.Proofs.Ymbrdl
