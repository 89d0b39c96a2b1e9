/-
  Wrapping: plain facts.
-/
import Derived.Test.YmbrdlGreedyP
set_option linter.unusedSimpArgs false
set_option linter.unusedVariables false
namespace Go.Proofs.Ymbrdl

/-- Wrap, from a running line and the room that it leaves. -/
def wrapGo (width : Int) : List ByteArray → Int → List ByteArray → List (List ByteArray)
  | line, _, [] => if line = [] then [] else [line]
  | line, room, s :: t => if line ≠ [] ∧ (s.size : Int) < room then wrapGo width (line ++ [s]) (room - (1 + s.size)) t
      else if line = [] then wrapGo width [s] (width - s.size) t else line :: wrapGo width [s] (width - s.size) t

theorem wrapGo_end (width : Int) (line : List ByteArray) (room : Int) : wrapGo width line room [] = if line = [] then [] else [line] := by rw [wrapGo]
theorem wrapGo_fit {width : Int} {line : List ByteArray} {room : Int} {s : ByteArray} {t : List ByteArray} (h1 : line ≠ []) (h2 : (s.size : Int) < room) : wrapGo width line room (s :: t) = wrapGo width (line ++ [s]) (room - (1 + s.size)) t := by
  rw [wrapGo, if_pos ⟨h1, h2⟩]
theorem wrapGo_open {width : Int} {room : Int} {s : ByteArray} {t : List ByteArray} : wrapGo width [] room (s :: t) = wrapGo width [s] (width - s.size) t := by
  rw [wrapGo, if_neg (by simp), if_pos rfl]
theorem wrapGo_break {width : Int} {line : List ByteArray} {room : Int} {s : ByteArray} {t : List ByteArray} (h1 : line ≠ []) (h2 : ¬ (s.size : Int) < room) : wrapGo width line room (s :: t) = line :: wrapGo width [s] (width - s.size) t := by
  rw [wrapGo, if_neg (by simp [h2]), if_neg h1]

theorem jlen_snoc {l : List ByteArray} (h : l ≠ []) (s : ByteArray) : jlen (l ++ [s]) = jlen l + 1 + s.size := by
  have hp := List.length_pos_iff.2 h
  unfold jlen
  rw [szs_append, List.length_append]
  simp [szs]; omega
theorem jlen_one (s : ByteArray) : jlen [s] = s.size := by simp [jlen, szs]
theorem jlen_prefix {l x : List ByteArray} : jlen l ≤ jlen (l ++ x) := by
  unfold jlen; rw [szs_append, List.length_append]; omega

theorem GP.cons {l : List ByteArray} {R : List (List ByteArray)} {width : Int} (h1 : l ≠ []) (h2 : (jlen l : Int) ≤ width) (h3 : GP R width R.length)
    (h4 : ∀ r s, R[0]? = some r → r[0]? = some s → width < (jlen l : Int) + 1 + s.size) : GP (l :: R) width (l :: R).length := by
  refine ⟨fun j x hj hx => ?_, fun j x x' s hj hx hx' hs => ?_⟩
  · cases j with
    | zero => simp at hx; subst hx; exact ⟨h1, h2⟩
    | succ j => simp at hx hj; exact h3.1 j x hj (by simpa using hx)
  · cases j with
    | zero => simp at hx hx'; subst hx; exact h4 x' s (by simpa using hx') hs
    | succ j => simp at hx hx' hj; exact h3.2 j x x' s (by omega) (by simpa using hx) (by simpa using hx') hs
theorem GP.tail {l : List ByteArray} {R : List (List ByteArray)} {width : Int} (h : GP (l :: R) width (l :: R).length) : GP R width R.length :=
  ⟨fun j x hj hx => h.1 (j + 1) x (by simp; omega) (by simpa using hx), fun j x x' s hj hx hx' hs => h.2 (j + 1) x x' s (by simp; omega) (by simpa using hx) (by simpa using hx') hs⟩
theorem GP.head {l : List ByteArray} {R : List (List ByteArray)} {width : Int} (h : GP (l :: R) width (l :: R).length) : l ≠ [] ∧ (jlen l : Int) ≤ width := h.1 0 l (by simp) rfl
theorem GP.one {l : List ByteArray} {width : Int} (h1 : l ≠ []) (h2 : (jlen l : Int) ≤ width) : GP [l] width [l].length :=
  GP.cons h1 h2 (GP.zero _ _) (fun r s h => by simp at h)

/-- What Wrap makes is greedy, begins with the running line, and holds all words in order. -/
theorem wrapGo_spec (width : Int) : ∀ (ws : List ByteArray) (line : List ByteArray) (room : Int), line ≠ [] → room = width - jlen line → (jlen line : Int) ≤ width → (∀ s ∈ ws, (s.size : Int) ≤ width) →
    GP (wrapGo width line room ws) width (wrapGo width line room ws).length ∧ (∃ x R, wrapGo width line room ws = (line ++ x) :: R) ∧ (wrapGo width line room ws).flatten = line ++ ws
  | [], line, room, h1, h2, h3, _ => by
    rw [wrapGo_end, if_neg h1]
    exact ⟨GP.one h1 h3, ⟨[], [], by simp⟩, by simp⟩
  | s :: t, line, room, h1, h2, h3, h4 => by
    have hs := h4 s (by simp)
    have ht : ∀ q ∈ t, (q.size : Int) ≤ width := fun q hq => h4 q (by simp [hq])
    by_cases hf : (s.size : Int) < room
    · rw [wrapGo_fit h1 hf]
      have hj := jlen_snoc h1 s
      obtain ⟨a, ⟨x, R, b⟩, c⟩ := wrapGo_spec width t (line ++ [s]) (room - (1 + s.size)) (by simp) (by rw [hj]; omega) (by rw [hj]; omega) ht
      exact ⟨a, ⟨s :: x, R, by rw [b]; simp⟩, by rw [c]; simp⟩
    · rw [wrapGo_break h1 hf]
      obtain ⟨a, ⟨x, R, b⟩, c⟩ := wrapGo_spec width t [s] (width - s.size) (by simp) (by rw [jlen_one]) (by rw [jlen_one]; exact hs) ht
      refine ⟨GP.cons h1 h3 a (fun r q hr hq => ?_), ⟨[], _, by rw [List.append_nil]⟩, by rw [List.flatten_cons, c]; simp⟩
      rw [b] at hr
      simp at hr
      subst hr
      simp at hq
      subst hq
      omega
def wrapL (width : Int) (ws : List ByteArray) : List (List ByteArray) := wrapGo width [] 0 ws
theorem wrapL_spec (width : Int) (ws : List ByteArray) (h : ∀ s ∈ ws, (s.size : Int) ≤ width) : GP (wrapL width ws) width (wrapL width ws).length ∧ (wrapL width ws).flatten = ws := by
  unfold wrapL
  cases ws with
  | nil => rw [wrapGo_end, if_pos rfl]; exact ⟨GP.zero _ _, rfl⟩
  | cons s t =>
    rw [wrapGo_open]
    obtain ⟨a, _, c⟩ := wrapGo_spec width t [s] (width - s.size) (by simp) (by rw [jlen_one]) (by rw [jlen_one]; exact h s (by simp)) (fun q hq => h q (by simp [hq]))
    exact ⟨a, by rw [c]; rfl⟩

theorem GP.nil_of_flat {L : List (List ByteArray)} {width : Int} (h : GP L width L.length) (hf : L.flatten = []) : L = [] := by
  cases L with
  | nil => rfl
  | cons l R =>
    have h1 := h.head.1
    rw [List.flatten_cons, List.append_eq_nil_iff] at hf
    exact absurd hf.1 h1
theorem greedy_long {l l' x : List ByteArray} {R : List (List ByteArray)} {width : Int} (h : GP (l :: R) width (l :: R).length) (hl : l' = l ++ x) (hx : x ≠ []) (hR : ∃ y, R.flatten = x ++ y) : width < jlen l' := by
  obtain ⟨y, hy⟩ := hR
  cases R with
  | nil => simp at hy; exact absurd hy.1 hx
  | cons r R' =>
    obtain ⟨s, x', rfl⟩ : ∃ s x', x = s :: x' := by cases x with | nil => exact absurd rfl hx | cons s x' => exact ⟨s, x', rfl⟩
    have hr := h.tail.head.1
    obtain ⟨q, r', rfl⟩ : ∃ q r', r = q :: r' := by cases r with | nil => exact absurd rfl hr | cons q r' => exact ⟨q, r', rfl⟩
    simp at hy
    obtain ⟨rfl, _⟩ := hy
    have h1 := h.2 0 l (q :: r') q (by simp) rfl rfl rfl
    have h2 : jlen (l ++ [q]) ≤ jlen l' := by rw [hl, show l ++ q :: x' = (l ++ [q]) ++ x' by simp]; exact jlen_prefix
    rw [jlen_snoc h.head.1] at h2
    omega
/-- There is one greedy breaking. -/
theorem greedy_unique {width : Int} : ∀ (L L' : List (List ByteArray)), GP L width L.length → GP L' width L'.length → L.flatten = L'.flatten → L = L'
  | [], L', _, h', hf => (GP.nil_of_flat h' hf.symm).symm
  | l :: R, [], h, _, hf => GP.nil_of_flat h hf
  | l :: R, l' :: R', h, h', hf => by
    rw [List.flatten_cons, List.flatten_cons] at hf
    rcases List.append_eq_append_iff.1 hf with ⟨x, h1, h2⟩ | ⟨x, h1, h2⟩
    · by_cases hx : x = []
      · subst hx
        rw [List.append_nil] at h1
        rw [h1, greedy_unique R R' h.tail h'.tail (by simpa using h2)]
      · have := greedy_long h h1 hx ⟨_, h2⟩
        have := h'.head.2
        omega
    · by_cases hx : x = []
      · subst hx
        rw [List.append_nil] at h1
        rw [h1, greedy_unique R R' h.tail h'.tail (by simpa using h2.symm)]
      · have := greedy_long h' h1 hx ⟨_, h2⟩
        have := h.head.2
        omega
end Go.Proofs.Ymbrdl
