/-
  Filled texts: their shape.
-/
import Derived.Test.YmbrdlFillQ
set_option linter.unusedSimpArgs false
set_option linter.unusedVariables false
namespace Go.Proofs.Ymbrdl

/-- A byte of the words l, or a space. -/
def Drawn (l : List ByteArray) (c : UInt8) : Prop := c = 32 ∨ ∃ s ∈ l, c ∈ s.data.toList
theorem mem_spaces {n : Nat} {c : UInt8} (h : c ∈ spaces n) : c = 32 := (List.mem_replicate.1 h).2
theorem drawn_wordsL {l : List ByteArray} {c : UInt8} (h : c ∈ wordsL l) : Drawn l c := by
  cases l with
  | nil => simp [wordsL] at h
  | cons s t =>
    rw [wordsL] at h
    rcases List.mem_append.1 h with h | h
    · exact .inr ⟨s, by simp, h⟩
    · obtain ⟨x, hx, hc⟩ := List.mem_flatMap.1 h
      rcases List.mem_cons.1 hc with rfl | hc
      · exact .inl rfl
      · exact .inr ⟨x, by simp [hx], hc⟩
theorem drawn_alignL {l : List ByteArray} {t : List UInt8} {W : Nat} {mode : Int} {c : UInt8} (ht : ∀ c ∈ t, Drawn l c) (h : c ∈ alignL t W mode) : Drawn l c := by
  unfold alignL at h
  rcases List.mem_append.1 h with h | h
  · rcases List.mem_append.1 h with h | h
    · exact .inl (mem_spaces h)
    · exact ht c h
  · exact .inl (mem_spaces h)
theorem drawn_jpre {l : List ByteArray} {g sh wd : Nat} {c : UInt8} : ∀ k, c ∈ jpre l g sh wd k → Drawn l c
  | 0, h => by simp [jpre] at h
  | k + 1, h => by
    rw [jpre] at h
    rcases List.mem_append.1 h with h | h
    · exact drawn_jpre k h
    · split at h
      · rename_i s hs
        rcases List.mem_append.1 h with h | h
        · rcases List.mem_append.1 h with h | h
          · exact .inr ⟨s, List.mem_of_getElem? hs, h⟩
          · exact .inl (mem_spaces h)
        · exact .inl (mem_spaces h)
      · simp at h
theorem drawn_lineL {l : List ByteArray} {W : Nat} {mode : Int} {more : Bool} {c : UInt8} (h : c ∈ lineL W mode more l) : Drawn l c := by
  unfold lineL at h
  split at h
  · split at h
    · unfold jusL at h
      split at h
      · exact drawn_alignL (fun c h => drawn_wordsL h) h
      · exact drawn_jpre _ h
    · exact drawn_alignL (fun c h => drawn_wordsL h) h
  · exact drawn_alignL (fun c h => drawn_wordsL h) h

/-- Lines of W bytes without line feeds. -/
def Flat (W : Nat) (xs : List (List UInt8)) : Prop := ∀ x ∈ xs, x.length = W ∧ ∀ c ∈ x, c.toNat ≠ 10
theorem Flat.length {W : Nat} : ∀ {xs : List (List UInt8)}, Flat W xs → (glue xs).length = xs.length * (W + 1)
  | [], _ => by simp [glue]
  | x :: R, h => by
    have h1 := Flat.length (xs := R) (fun y hy => h y (by simp [hy]))
    have h2 := (h x (by simp)).1
    have e : glue (x :: R) = x ++ [10] ++ glue R := by simp [glue]
    have e3 : (x :: R).length * (W + 1) = R.length * (W + 1) + 1 * (W + 1) := by rw [← Nat.add_mul]; rfl
    rw [e, List.length_append, List.length_append, h1, h2, e3, List.length_singleton]
    omega
theorem Flat.at {W : Nat} : ∀ {xs : List (List UInt8)}, Flat W xs → ∀ i c, (glue xs)[i]? = some c → (c.toNat = 10 ↔ i % (W + 1) = W)
  | [], _, i, c, hc => by simp [glue] at hc
  | x :: R, h, i, c, hc => by
    have h2 := h x (by simp)
    have e : glue (x :: R) = x ++ ([10] ++ glue R) := by simp [glue]
    rw [e] at hc
    by_cases h1 : i < W
    · rw [List.getElem?_append_left (by omega)] at hc
      have h3 := h2.2 c (List.mem_of_getElem? hc)
      rw [Nat.mod_eq_of_lt (by omega)]
      omega
    · rw [List.getElem?_append_right (by omega), h2.1] at hc
      by_cases h4 : i = W
      · subst h4
        simp at hc
        subst hc
        rw [Nat.mod_eq_of_lt (by omega)]
        exact ⟨fun _ => rfl, fun _ => rfl⟩
      · rw [List.getElem?_append_right (by simp; omega)] at hc
        have h5 := Flat.at (xs := R) (fun y hy => h y (by simp [hy])) _ c hc
        rw [h5]
        have e2 : i = (i - W - [10].length) + (W + 1) := by simp; omega
        conv => rhs; rw [e2, Nat.add_mod_right]
        exact Iff.rfl
theorem flat_fillPre {L : List (List ByteArray)} {W : Nat} {mode : Int} (hl : ∀ s ∈ L.flatten, IsWord s) (hj : ∀ l ∈ L, jlen l ≤ W) : ∀ k, Flat W (fillPre W mode L k)
  | 0 => fun x hx => by simp [fillPre] at hx
  | k + 1 => by
    intro x hx
    rw [fillPre] at hx
    rcases List.mem_append.1 hx with hx | hx
    · exact flat_fillPre hl hj k x hx
    · split at hx
      · rename_i l hs
        rw [List.mem_singleton.1 hx]
        have hm := List.mem_of_getElem? hs
        refine ⟨lineL_length _ _ (hj l hm), fun c hc => ?_⟩
        rcases drawn_lineL hc with rfl | ⟨s, hs2, hc2⟩
        · decide
        · have h3 := (hl s (List.mem_flatten.2 ⟨l, hm, hs2⟩)).1 c hc2
          intro h10
          rw [isSp, h10] at h3
          exact absurd h3 (by decide)
      · simp at hx
theorem fillPre_length {L : List (List ByteArray)} {W : Nat} {mode : Int} : ∀ k, k ≤ L.length → (fillPre W mode L k).length = k
  | 0, _ => rfl
  | k + 1, h => by
    have hs : L[k]? = some (L[k]'(by omega)) := List.getElem?_eq_getElem _
    rw [fillPre_succ hs, List.length_append, fillPre_length k (by omega)]
    rfl
/-- Fill's text of the text t, where it answers. -/
theorem fill_shape {t : List UInt8} {width : Int} {mode : Int} (hfit : ∀ x ∈ wsOf t, (x.size : Int) ≤ width) (hne : wsOf t ≠ []) :
    ∃ n, 0 < n ∧ n ≤ (wsOf t).length ∧ (fillL width.toNat mode (wrapL width (wsOf t))).length = n * (width.toNat + 1) ∧ ∀ i c, (fillL width.toNat mode (wrapL width (wsOf t)))[i]? = some c → (c.toNat = 10 ↔ i % (width.toNat + 1) = width.toNat) := by
  obtain ⟨hg, hf⟩ := wrapL_spec width (wsOf t) hfit
  have hl := wsOf_words t
  generalize wsOf t = ws at *
  generalize wrapL width ws = L at *
  subst hf
  have hF := flat_fillPre (W := width.toNat) (mode := mode) hl (fun l hl => by
    obtain ⟨k, hk, rfl⟩ := List.getElem_of_mem hl
    have := (hg.1 k _ hk (List.getElem?_eq_getElem hk)).2
    omega) L.length
  refine ⟨L.length, ?_, GP.len_le hg, ?_, hF.at⟩
  · rcases Nat.eq_zero_or_pos L.length with h | h
    · rw [List.eq_nil_of_length_eq_zero h] at hne
      exact absurd rfl hne
    · exact h
  · rw [fillL, hF.length, fillPre_length _ (Nat.le_refl _)]
end Go.Proofs.Ymbrdl
