import Derived.Test.YmbrdkWrap
set_option linter.unusedSimpArgs false
set_option linter.unusedVariables false
namespace Go.Proofs.Ymbrdk
open Go.RowKit

theorem ltGet {α : Type} {l : List α} {k : Nat} {x : α} (h : l[k]? = some x) : k < l.length := (List.getElem?_eq_some_iff.1 h).1
theorem flatAt {α : Type} {L : List (List α)} {i j : Nat} {ss : List α} {x : α} (h : L[i]? = some ss) (hj : ss[j]? = some x) : L.flatten[(L.take i).flatten.length + j]? = some x := by
  obtain ⟨hi, rfl⟩ := List.getElem?_eq_some_iff.1 h
  have hjl : j < L[i].length := (List.getElem?_eq_some_iff.1 hj).1
  have e : L = L.take i ++ L[i] :: L.drop (i + 1) := by rw [List.getElem_cons_drop, List.take_append_drop]
  have e2 : L.flatten = (L.take i).flatten ++ (L[i] ++ (L.drop (i + 1)).flatten) := by
    conv => lhs; rw [e]
    rw [List.flatten_append, List.flatten_cons]
  rw [e2, List.getElem?_append_right (by omega), Nat.add_sub_cancel_left, List.getElem?_append_left hjl]
  exact hj
theorem flatSucc {α : Type} {L : List (List α)} {k : Nat} {ss : List α} (h : L[k]? = some ss) : (L.take (k + 1)).flatten = (L.take k).flatten ++ ss := by
  rw [List.take_add_one, h]; simp
theorem flatTakeLen {α : Type} (L : List (List α)) (i : Nat) : ((L.take i).flatten).length ≤ L.flatten.length := by
  have h : (L.take i).flatten ++ (L.drop i).flatten = L.flatten := by rw [← List.flatten_append, List.take_append_drop]
  rw [← h, List.length_append]; omega
theorem mem_of_flat {L : List (List ByteArray)} {ss : List ByteArray} (h : L.flatten = ss) : ∀ l ∈ L, ∀ s ∈ l, s ∈ ss := fun l hl s hs => by rw [← h]; exact List.mem_flatten.2 ⟨l, hl, hs⟩

def Longest (ss : List ByteArray) (m : Nat) : Prop := (∀ s ∈ ss, s.size ≤ m) ∧ (m = 0 ∨ ∃ s ∈ ss, s.size = m)

set_option maxHeartbeats 800000 in
theorem flongest_any (a : Option Addr) (len cap : Nat) (ss : List ByteArray) (w : World) (hs : Strs w a len cap ss) :
    Calls Ydkm.prog 20 #[.slice a len cap] w fun e w' => (∃ m : Nat, e = .returned (.int .i64 m) ∧ Longest ss m ∧ m ≤ 9223372036854775807) ∧ w' = w := by
  have hle := hs.le
  have hmx := hs.max
  have hl := hide hs.hlen
  unfold maxLen at hmx
  go_enter Ydkm.func20, Ydkm.ntmps20
  go_wp2
  go_loop [3, 8] (fun x i => ∃ (k m : Nat), k ≤ len ∧ i = .int .i64 k ∧ x = .int .i64 m ∧ m ≤ 9223372036854775807 ∧ Hid (Longest (ss.take k) m)) (fun _ i => len - (intOf i).toNat)
  case atStart => exact ⟨0, 0, Nat.zero_le _, rfl, rfl, by omega, by simp [Hid, Longest]⟩
  case round =>
    obtain ⟨k, m, hk, rfl, rfl, hm, HL⟩ := hrel
    by_cases hlt : k < len
    · obtain ⟨b, off, s, rfl, hss, hsz, hb, hc⟩ := hs.nth k hlt
      have hT : ss.take (k + 1) = ss.take k ++ [s] := by rw [List.take_add_one, hss]; rfl
      have HT := hide hT
      clear hss hT
      unfold maxLen at hsz
      by_cases hmj : m < s.size
      · go_wp2
        go_round
        case rel =>
          refine ⟨k + 1, s.size, by omega, by go_num, rfl, by omega, ?_⟩
          obtain ⟨h1, h2⟩ := unhide HL
          show Longest _ _
          rw [unhide HT]
          refine ⟨fun q hq => ?_, .inr ⟨s, by simp, rfl⟩⟩
          rcases List.mem_append.1 hq with hq | hq
          · have := h1 q hq; omega
          · simp at hq; subst hq; exact Nat.le_refl _
        case measure => simp [intOf]; omega
      · go_wp2
        go_round
        case rel =>
          refine ⟨k + 1, m, by omega, by go_num, rfl, hm, ?_⟩
          obtain ⟨h1, h2⟩ := unhide HL
          show Longest _ _
          rw [unhide HT]
          refine ⟨fun q hq => ?_, ?_⟩
          · rcases List.mem_append.1 hq with hq | hq
            · exact h1 q hq
            · simp at hq; subst hq; omega
          · rcases h2 with h2 | ⟨q, hq, h2⟩
            · exact .inl h2
            · exact .inr ⟨q, by simp [hq], h2⟩
        case measure => simp [intOf]; omega
    · have HR : Hid (Longest ss m) := by
        have h1 := unhide HL
        rw [List.take_of_length_le (by have := unhide hl; omega)] at h1
        exact h1
      go_wp2
      go_ret
      exact ⟨⟨_, rfl, unhide HR, hm⟩, rfl⟩
end Go.Proofs.Ymbrdk
