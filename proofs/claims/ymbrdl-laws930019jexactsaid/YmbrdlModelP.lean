/-
  The plain model of the J law: plain facts.
-/
import Derived.Test.YmbrdlFillS
set_option linter.unusedSimpArgs false
set_option linter.unusedVariables false
namespace Go.Proofs.Ymbrdl

/-- The first q words with the gaps ahead of them. -/
def midL (l : List ByteArray) (sh wd : Nat) : Nat → List UInt8
  | 0 => []
  | q + 1 => midL l sh wd q ++ (match l[q]? with
    | some s => (if q = 0 then [] else spaces (1 + sh + (if q ≤ wd then 1 else 0))) ++ s.data.toList
    | .none => [])
theorem midL_succ {l : List ByteArray} {sh wd q : Nat} {s : ByteArray} (h : l[q]? = some s) : midL l sh wd (q + 1) = midL l sh wd q ++ (if q = 0 then [] else spaces (1 + sh + (if q ≤ wd then 1 else 0))) ++ s.data.toList := by
  rw [midL, h]; simp
theorem midL_le (l : List ByteArray) (sh wd q : Nat) : (midL l sh wd q).length ≤ (midL l sh wd (q + 1)).length := by
  rw [midL, List.length_append]; omega
theorem midL_mono (l : List ByteArray) (sh wd q : Nat) : ∀ k, (midL l sh wd q).length ≤ (midL l sh wd (q + k)).length
  | 0 => Nat.le_refl _
  | k + 1 => Nat.le_trans (midL_mono l sh wd q k) (midL_le l sh wd (q + k))
theorem midL_words {l : List ByteArray} : ∀ q, q ≤ l.length → midL l 0 0 q = wordsL (l.take q)
  | 0, _ => rfl
  | q + 1, h => by
    have hs : l[q]? = some (l[q]'(by omega)) := List.getElem?_eq_getElem _
    rw [midL_succ hs, wordsL_take_succ hs, midL_words q (by omega), List.append_assoc]
    congr 2
    by_cases h0 : q = 0
    · rw [if_pos h0, if_pos h0]
    · rw [if_neg h0, if_neg h0, if_neg (by omega)]; rfl
theorem spaces_add (a b : Nat) : spaces a ++ spaces b = spaces (a + b) := by simp [spaces]
theorem midL_jpre {l : List ByteArray} {g sh wd : Nat} : ∀ q, q < l.length → q + 1 ≤ g → jpre l g sh wd (q + 1) = midL l sh wd (q + 1) ++ spaces (1 + sh + (if q < wd then 1 else 0))
  | 0, h, hg => by
    have hs : l[0]? = some (l[0]'(by omega)) := List.getElem?_eq_getElem _
    rw [jpre_succ hs, midL_succ hs, if_pos (show 0 < g by omega), if_pos rfl, List.append_assoc _ (spaces _), spaces_add]
    simp [jpre, midL]
  | q + 1, h, hg => by
    have hs : l[q + 1]? = some (l[q + 1]'(by omega)) := List.getElem?_eq_getElem _
    rw [jpre_succ hs, midL_succ hs, if_pos (show q + 1 < g by omega), if_neg (show ¬ q + 1 = 0 by omega), List.append_assoc _ (spaces (1 + sh)), spaces_add, midL_jpre q (by omega) (by omega)]
    rfl
theorem midL_jus {l : List ByteArray} {W : Nat} (h : 2 ≤ l.length) : jusL l W = midL l ((W - jlen l) / (l.length - 1)) ((W - jlen l) % (l.length - 1)) l.length := by
  unfold jusL
  rw [if_neg (by omega)]
  have hwd := Nat.mod_lt (W - jlen l) (show 0 < l.length - 1 by omega)
  generalize (W - jlen l) / (l.length - 1) = sh
  generalize (W - jlen l) % (l.length - 1) = wd at *
  obtain ⟨n, hn⟩ : ∃ n, l.length = n + 2 := ⟨l.length - 2, by omega⟩
  rw [hn] at hwd ⊢
  have hs : l[n + 1]? = some (l[n + 1]'(by omega)) := List.getElem?_eq_getElem _
  rw [jpre_succ hs, midL_succ hs, midL_jpre n (by omega) (by omega), if_neg (show ¬ n + 1 < n + 2 - 1 by omega), if_neg (show ¬ n + 1 < wd by omega), if_neg (show ¬ n + 1 = 0 by omega)]
  have e : spaces 0 = [] := rfl
  rw [e, List.append_nil, List.append_nil]
  rfl
theorem align_mid (l : List ByteArray) (W : Nat) (m : Int) : alignL (wordsL l) W m = spaces (befN m (W - jlen l)) ++ midL l 0 0 l.length ++ spaces (W - jlen l - befN m (W - jlen l)) := by
  unfold alignL
  rw [wordsL_length, midL_words _ (Nat.le_refl _), List.take_length]
/-- The text of one line, in the model's terms. -/
def LineIs (W : Nat) (mode : Int) (more : Bool) (l : List ByteArray) (be sh wd af : Nat) : Prop := lineL W mode more l = spaces be ++ midL l sh wd l.length ++ spaces af
theorem line_a {W : Nat} {mode : Int} {more : Bool} {l : List ByteArray} (h : mode ≠ 3) : LineIs W mode more l (befN mode (W - jlen l)) 0 0 (W - jlen l - befN mode (W - jlen l)) := by
  unfold LineIs lineL
  rw [if_neg h, align_mid]
theorem line_b {W : Nat} {l : List ByteArray} : LineIs W 3 false l 0 0 0 (W - jlen l) := by
  unfold LineIs lineL
  rw [if_pos rfl, if_neg (by simp), align_mid]
  simp [befN]
theorem line_c {W : Nat} {l : List ByteArray} (h : l.length < 2) : LineIs W 3 true l 0 0 0 (W - jlen l) := by
  unfold LineIs lineL
  rw [if_pos rfl, if_pos rfl, jusL, if_pos h, align_mid]
  simp [befN]
theorem line_d {W : Nat} {l : List ByteArray} (h : 2 ≤ l.length) : LineIs W 3 true l 0 ((W - jlen l) / (l.length - 1)) ((W - jlen l) % (l.length - 1)) 0 := by
  unfold LineIs lineL
  rw [if_pos rfl, if_pos rfl, midL_jus h]
  simp [spaces]
theorem LineIs.len {W : Nat} {mode : Int} {more : Bool} {l : List ByteArray} {be sh wd af : Nat} (h : LineIs W mode more l be sh wd af) (hj : jlen l ≤ W) : be + (midL l sh wd l.length).length + af = W := by
  have h1 := lineL_length mode more hj
  rw [h, List.length_append, List.length_append, spaces_length, spaces_length] at h1
  exact h1

theorem lineM_cut {L : List (List ByteArray)} {z : List ByteArray} {K A : Nat} {ss : List ByteArray} (hf : L.flatten = z) (hs : L[K]? = some ss) (hA : A = ((L.take K).flatten).length) : z.drop A = ss ++ (L.drop (K + 1)).flatten ∧ z.drop (A + ss.length) = (L.drop (K + 1)).flatten := by
  obtain ⟨hK, rfl⟩ := List.getElem?_eq_some_iff.1 hs
  have e : L = L.take K ++ L[K] :: L.drop (K + 1) := by rw [List.getElem_cons_drop, List.take_append_drop]
  have e2 : z = (L.take K).flatten ++ (L[K] ++ (L.drop (K + 1)).flatten) := by
    rw [← hf]
    conv => lhs; rw [e]
    rw [List.flatten_append, List.flatten_cons]
  have e3 : z.drop A = L[K] ++ (L.drop (K + 1)).flatten := by
    rw [e2, hA]; simp
  refine ⟨e3, ?_⟩
  rw [← List.drop_drop, e3]; simp

/-- At word A the line ss begins. -/
structure MSt (L : List (List ByteArray)) (z : List ByteArray) (K A : Nat) (ss : List ByteArray) : Prop where
  flat : L.flatten = z
  line : L[K]? = some ss
  at_ : A = ((L.take K).flatten).length

theorem MSt.word {L : List (List ByteArray)} {z : List ByteArray} {K A : Nat} {ss : List ByteArray} (h : MSt L z K A ss) {t : Nat} (ht : t < ss.length) : z[A + t]? = ss[t]? := by
  have h1 := (lineM_cut h.flat h.line h.at_).1
  rw [← List.getElem?_drop, h1, List.getElem?_append_left ht]
theorem MSt.le {L : List (List ByteArray)} {z : List ByteArray} {K A : Nat} {ss : List ByteArray} (h : MSt L z K A ss) (hne : ss ≠ []) : A + ss.length ≤ z.length := by
  have hp := List.length_pos_iff.2 hne
  have h1 := h.word (t := ss.length - 1) (by omega)
  rw [List.getElem?_eq_getElem (show ss.length - 1 < ss.length by omega)] at h1
  have := (List.getElem?_eq_some_iff.1 h1).1
  omega
theorem MSt.last {L : List (List ByteArray)} {z : List ByteArray} {K A : Nat} {ss : List ByteArray} (h : MSt L z K A ss) (hne : ss ≠ []) (hK : ¬ K + 1 < L.length) : A + ss.length = z.length := by
  have h1 := (lineM_cut h.flat h.line h.at_).2
  rw [List.drop_of_length_le (show L.length ≤ K + 1 by omega), List.flatten_nil] at h1
  have h2 := List.drop_eq_nil_iff.1 h1
  have h3 := h.le hne
  omega
theorem MSt.next {L : List (List ByteArray)} {z : List ByteArray} {K A : Nat} {ss : List ByteArray} {width : Int} (h : MSt L z K A ss) (hG : GP L width L.length) (hK : K + 1 < L.length) : A + ss.length < z.length ∧ ∀ s, z[A + ss.length]? = some s → width < (jlen ss : Int) + 1 + s.size := by
  have h1 := (lineM_cut h.flat h.line h.at_).2
  have hr : L[K + 1]? = some L[K + 1] := List.getElem?_eq_getElem hK
  have hne := (hG.1 (K + 1) _ hK hr).1
  have hp := List.length_pos_iff.2 hne
  rw [List.drop_eq_getElem_cons hK, List.flatten_cons] at h1
  have h2 := congrArg List.length h1
  rw [List.length_drop, List.length_append] at h2
  refine ⟨by omega, fun s hs => ?_⟩
  have h3 : L[K + 1][0]? = some s := by
    rw [← List.getElem?_append_left (l₂ := (L.drop (K + 1 + 1)).flatten) hp, ← h1, List.getElem?_drop]; exact hs
  exact hG.2 K ss _ s hK h.line hr h3
theorem MSt.step {L : List (List ByteArray)} {z : List ByteArray} {K A : Nat} {ss : List ByteArray} (h : MSt L z K A ss) : A + ss.length = ((L.take (K + 1)).flatten).length := by
  rw [List.take_add_one, h.line, List.flatten_append, List.length_append, ← h.at_]; simp
/-- Words are left: so is a line. -/
theorem line_left {L : List (List ByteArray)} {z : List ByteArray} {K A : Nat} (hf : L.flatten = z) (hK : K ≤ L.length) (hA : A = ((L.take K).flatten).length) (hlt : A < z.length) : ∃ ss, MSt L z K A ss := by
  by_cases h : K < L.length
  · exact ⟨L[K], hf, List.getElem?_eq_getElem h, hA⟩
  · rw [List.take_of_length_le (by omega), hf] at hA
    omega
end Go.Proofs.Ymbrdl
