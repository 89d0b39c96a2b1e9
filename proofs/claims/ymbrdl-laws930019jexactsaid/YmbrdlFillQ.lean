/-
  Filled texts: what bytes they hold, and their words.
-/
import Derived.Test.YmbrdlFillP
import Derived.Test.YmbrdlHRoundP
set_option linter.unusedSimpArgs false
set_option linter.unusedVariables false
namespace Go.Proofs.Ymbrdl

/-- The fields are words. -/
theorem fieldsGo_words : ∀ (t cur : List UInt8), NoSp cur → ∀ l ∈ fieldsGo cur t, NoSp l ∧ l ≠ []
  | [], cur, hc, l, hl => by
    rw [fieldsGo_end] at hl
    split at hl
    · simp at hl
    · simp at hl; subst hl; exact ⟨hc, by assumption⟩
  | c :: t, cur, hc, l, hl => by
    cases hs : isSp c
    · rw [fieldsGo_other _ _ _ hs] at hl
      refine fieldsGo_words t (cur ++ [c]) (fun d hd => ?_) l hl
      rcases List.mem_append.1 hd with hd | hd
      · exact hc d hd
      · rw [List.mem_singleton.1 hd]; exact hs
    · rw [fieldsGo_sp _ _ _ hs] at hl
      have hn : NoSp [] := fun d hd => by simp at hd
      split at hl
      · exact fieldsGo_words t [] hn l hl
      · rcases List.mem_cons.1 hl with rfl | hl
        · exact ⟨hc, by assumption⟩
        · exact fieldsGo_words t [] hn l hl
/-- A word: no separator, not empty. -/
def IsWord (s : ByteArray) : Prop := NoSp s.data.toList ∧ s.data.toList ≠ []
theorem wsOf_words (t : List UInt8) : ∀ s ∈ wsOf t, IsWord s := by
  intro s hs
  obtain ⟨l, hl, rfl⟩ := List.mem_map.1 hs
  exact fieldsGo_words t [] (fun d hd => by simp at hd) l hl

theorem Shut.app {t t' : List UInt8} {ws ws' : List (List UInt8)} (h : Shut t ws) (h' : Shut t' ws') : Shut (t ++ t') (ws ++ ws') := fun X => by
  rw [List.append_assoc, h, h', List.append_assoc]
theorem Shut.appP {t t' : List UInt8} {ws ws' : List (List UInt8)} (h : Shut t ws) (h' : Pend t' ws') : Pend (t ++ t') (ws ++ ws') := fun X hX => by
  rw [List.append_assoc, h, h' X hX, List.append_assoc]
theorem shut_spaces : ∀ n, Shut (spaces n) []
  | 0 => Shut.nil
  | n + 1 => by
    rw [spaces_succ]
    exact (shut_spaces n).pend.sep (by decide)
theorem Pend.spaces1 {t : List UInt8} {ws : List (List UInt8)} (h : Pend t ws) (n : Nat) (hn : 0 < n) : Shut (t ++ spaces n) ws := by
  obtain ⟨m, rfl⟩ : ∃ m, n = m + 1 := ⟨n - 1, by omega⟩
  have e : spaces (m + 1) = [32] ++ spaces m := by simp [spaces, List.replicate_succ]
  rw [e, ← List.append_assoc]
  simpa using (h.sep (c := 32) (by decide)).app (shut_spaces m)
theorem Pend.spaces {t : List UInt8} {ws : List (List UInt8)} (h : Pend t ws) (n : Nat) : Pend (t ++ spaces n) ws := by
  rcases Nat.eq_zero_or_pos n with h0 | h0
  · subst h0; simpa [Go.Proofs.Ymbrdl.spaces] using h
  · exact (h.spaces1 n h0).pend

theorem wordsL_pend : ∀ (l : List ByteArray), (∀ s ∈ l, IsWord s) → Pend (wordsL l) (textsF l) := by
  intro l hl
  have key : ∀ k, k ≤ l.length → Pend (wordsL (l.take k)) (textsF (l.take k)) := by
    intro k
    induction k with
    | zero => intro _; exact Shut.nil.pend
    | succ k ih =>
      intro hk
      have hs : l[k]? = some (l[k]'(by omega)) := List.getElem?_eq_getElem _
      have hw := hl _ (List.getElem_mem (show k < l.length by omega))
      have ih := ih (by omega)
      rw [wordsL_take_succ hs, List.take_add_one, hs, textsF_append]
      by_cases h0 : k = 0
      · subst h0
        simpa [wordsL, textsF] using Shut.nil.word hw.1 hw.2
      · rw [if_neg h0, ← List.append_assoc]
        simpa [textsF] using (ih.sep (c := 32) (by decide)).word hw.1 hw.2
  have := key l.length (Nat.le_refl _)
  rwa [List.take_length] at this
theorem alignL_pend {t : List UInt8} {ws : List (List UInt8)} (W : Nat) (mode : Int) (h : Pend t ws) : Pend (alignL t W mode) ws := by
  unfold alignL
  have h1 := (shut_spaces (befN mode (W - t.length))).appP h
  rw [List.nil_append] at h1
  exact h1.spaces _
/-- All words but the last are closed off by their gaps. -/
theorem jpre_shut {ss : List ByteArray} {g sh wd : Nat} (hl : ∀ s ∈ ss, IsWord s) : ∀ k, k ≤ g → k ≤ ss.length → Shut (jpre ss g sh wd k) (textsF (ss.take k))
  | 0, _, _ => Shut.nil
  | k + 1, hg, hk => by
    have hs : ss[k]? = some (ss[k]'(by omega)) := List.getElem?_eq_getElem _
    have hw := hl _ (List.getElem_mem (show k < ss.length by omega))
    rw [jpre_succ hs, if_pos (show k < g by omega), List.take_add_one, hs, textsF_append]
    have h1 := ((jpre_shut (g := g) (sh := sh) (wd := wd) hl k (by omega) (by omega)).word hw.1 hw.2).spaces1 (1 + sh) (by omega)
    have h2 := h1.app (shut_spaces (if k < wd then 1 else 0))
    simpa [textsF] using h2
theorem jusL_pend {l : List ByteArray} (W : Nat) (hl : ∀ s ∈ l, IsWord s) : Pend (jusL l W) (textsF l) := by
  unfold jusL
  split
  · exact alignL_pend W 0 (wordsL_pend l hl)
  · rename_i h2
    obtain ⟨n, hn⟩ : ∃ n, l.length = n + 1 := ⟨l.length - 1, by omega⟩
    have hs : l[n]? = some (l[n]'(by omega)) := List.getElem?_eq_getElem _
    have hw := hl _ (List.getElem_mem (show n < l.length by omega))
    have hm : ¬ n < (W - jlen l) % (l.length - 1) := by
      have := Nat.mod_lt (W - jlen l) (show 0 < l.length - 1 by omega)
      omega
    have h1 := (jpre_shut (g := l.length - 1) (sh := (W - jlen l) / (l.length - 1)) (wd := (W - jlen l) % (l.length - 1)) hl n (by omega) (by omega)).word hw.1 hw.2
    have e : l = l.take n ++ [l[n]'(by omega)] := by
      have := List.take_add_one (l := l) (i := n)
      rw [hs] at this
      rw [← hn, List.take_length] at this
      simpa using this
    have e2 : textsF l = textsF (l.take n) ++ [(l[n]'(by omega)).data.toList] := by
      conv => lhs; rw [e]
      rw [textsF_append]; rfl
    have e3 : jpre l (l.length - 1) ((W - jlen l) / (l.length - 1)) ((W - jlen l) % (l.length - 1)) l.length = jpre l (l.length - 1) ((W - jlen l) / (l.length - 1)) ((W - jlen l) % (l.length - 1)) (n + 1) := by
      congr 1
    rw [e3, jpre_succ hs, if_neg (show ¬ n < l.length - 1 by omega), if_neg hm, e2]
    simpa [spaces] using h1
theorem lineL_pend {l : List ByteArray} (W : Nat) (mode : Int) (more : Bool) (hl : ∀ s ∈ l, IsWord s) : Pend (lineL W mode more l) (textsF l) := by
  unfold lineL
  split
  · split
    · exact jusL_pend W hl
    · exact alignL_pend W 0 (wordsL_pend l hl)
  · exact alignL_pend W mode (wordsL_pend l hl)
theorem glue_append (a b : List (List UInt8)) : glue (a ++ b) = glue a ++ glue b := by simp [glue]
/-- Filling keeps the words. -/
theorem fillL_shut {L : List (List ByteArray)} (W : Nat) (mode : Int) (hl : ∀ s ∈ L.flatten, IsWord s) : Shut (fillL W mode L) (textsF L.flatten) := by
  have key : ∀ k, k ≤ L.length → Shut (glue (fillPre W mode L k)) (textsF (L.take k).flatten) := by
    intro k
    induction k with
    | zero => intro _; exact Shut.nil
    | succ k ih =>
      intro hk
      have hs : L[k]? = some (L[k]'(by omega)) := List.getElem?_eq_getElem _
      rw [fillPre_succ hs, glue_append, List.take_add_one, hs, List.flatten_append, textsF_append]
      have h1 := (lineL_pend (l := L[k]'(by omega)) W mode (decide (k + 1 < L.length)) (fun s h => hl s (List.mem_flatten.2 ⟨_, List.getElem_mem (by omega), h⟩))).sep (c := 10) (by decide)
      have h2 := (ih (by omega)).app h1
      simpa [glue] using h2
  have := key L.length (Nat.le_refl _)
  rwa [List.take_length] at this
theorem fillL_words {L : List (List ByteArray)} (W : Nat) (mode : Int) (hl : ∀ s ∈ L.flatten, IsWord s) : wsOf (fillL W mode L) = L.flatten :=
  (wsOf_eq (fillL_shut W mode hl).pend.fields.symm).symm
end Go.Proofs.Ymbrdl
