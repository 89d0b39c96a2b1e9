import Derived.Test.YmbrdkRows
import Derived.Test.YmbrdkKit2
import Derived.Test.YmbrdkSplitP
import Derived.WalkKit
import Derived.WalkSpells
import Derived.WalkLawsBesides
import Derived.Deep.DeepMust
set_option linter.unusedSimpArgs false
set_option linter.unusedVariables false
namespace Go.Proofs.Ymbrdk
open Go.RowKit

theorem info9s : (Ydkm.prog.info? 9).map (fun i => (i.zero, i.size, i.bytes)) = some (some (.string ByteArray.empty), 1, 16) := by kernel_rfl

def texts (ps : List ByteArray) : List (List UInt8) := ps.map fun s => s.data.toList
theorem texts_append (a b : List ByteArray) : texts (a ++ b) = texts a ++ texts b := by simp [texts]
theorem texts_length (a : List ByteArray) : (texts a).length = a.length := by simp [texts]

set_option maxHeartbeats 1600000 in
theorem splitLines_any (s : ByteArray) (w : World) (hs : s.size ≤ 1073741824) :
    Calls Ydkm.prog 23 #[.string s] w fun e w' => ∃ v ps, e = .returned v ∧ Own w' w.heap.size 9 v (ps.map Value.string) ∧ Hid (texts ps = splitGo [] s.data.toList) ∧ ps.length ≤ s.size ∧ (∀ p ∈ ps, p.size ≤ s.size) ∧ Below w.heap.size w w' ∧ (v = .slice none 0 0 ↔ ps = []) := by
  obtain ⟨i0, hi, hz0, hz1, hz2⟩ := info_parts info9s
  go_enter Ydkm.func23, Ydkm.ntmps23
  go_wp2
  go_loopw [3, 4, 5] (fun v st i wr => ∃ (p k : Nat) (ps : List ByteArray), st = .int .i64 p ∧ i = .int .i64 k ∧ p ≤ k ∧ k ≤ s.size ∧ Own wr w.heap.size 9 v (ps.map Value.string) ∧ ps.length ≤ p ∧ Hid (texts ps ++ splitGo (piece s p k) (s.data.toList.drop k) = splitGo [] s.data.toList) ∧ Hid (∀ p ∈ ps, p.size ≤ s.size) ∧ Below w.heap.size w wr ∧ Hid (v = .slice none 0 0 ↔ ps = [])) (fun _ _ i _ => s.size - (intOf i).toNat)
  case atStart => exact ⟨0, 0, [], rfl, rfl, Nat.le_refl _, Nat.zero_le _, Own.nil _ _ _, Nat.le_refl _, by simp [Hid, texts, piece], by simp [Hid], Below.refl _ _, by simp [Hid]⟩
  case round =>
    obtain ⟨p, k, ps, rfl, rfl, hpk, hks, hown, hpl, HE, HZ, hb, HN⟩ := hrel
    have hBr := hb.size
    have hml : (ps.map Value.string).length ≤ 1073741824 := by rw [List.length_map]; omega
    by_cases hlt : k < s.size
    · have hdc := drop_cons s k hlt
      by_cases hc : s[k].toNat = 10
      · have hE2 := unhide HE
        rw [hdc, splitGo_nl _ _ _ hc] at hE2
        have HE2 := hide hE2
        have hc1 : (s[k].toNat : Int) ≤ 10 := by omega
        have hc2 : (10 : Int) ≤ s[k].toNat := by omega
        clear hE2 hdc hc HE
        go_wp2_with (at_builtin; go_must (refine wpList_append1 rfl _ _ 22 rfl w.heap.size 9 i0 (.string ByteArray.empty) 16 Ydkm.underlying22 hi hz0 hz1 hz2 rfl u3 (ps.map Value.string) rfl wr (.string (s.extract p k)) rfl hown hBr rfl (by omega) (by unfold maxLen; omega) ?_); intro v3 w3 hu3 hg3 hat3 hne3)
        have R1 : Own w3 w.heap.size 9 v3 ((ps ++ [s.extract p k]).map Value.string) := by rw [List.map_append]; exact hu3
        have R2 := Below.of_grown hb hown hBr hg3
        have R3 : Hid (texts (ps ++ [s.extract p k]) ++ splitGo (piece s (k + 1) (k + 1)) (s.data.toList.drop (k + 1)) = splitGo [] s.data.toList) := by
          have h := unhide HE2
          show _ = _
          rw [texts_append, piece_nil, List.append_assoc]
          rw [← h]
          simp [texts, piece_extract, piece]
        have R4 : Hid (∀ q ∈ ps ++ [s.extract p k], q.size ≤ s.size) := fun q hq => by
          rcases List.mem_append.1 hq with hq | hq
          · exact unhide HZ q hq
          · simp at hq; subst hq; rw [ByteArray.size_extract]; omega
        have R5 : Hid (v3 = .slice none 0 0 ↔ ps ++ [s.extract p k] = []) := by show _ ↔ _; simp [hne3]
        clear hu3 hg3 hat3 hne3 hown hb HZ HN HE2
        go_wp2
        go_roundw
        case rel => exact ⟨k + 1, k + 1, _, by go_num, by go_num, Nat.le_refl _, by omega, R1, by simp; omega, R3, R4, R2, R5⟩
        case measure => simp [intOf]; omega
      · have hE2 := unhide HE
        rw [hdc, splitGo_other _ _ _ hc, ← piece_succ s p k hpk hlt] at hE2
        have HE2 := hide hE2
        have hne : ((s[k].toNat : Int) == 10) = false := by simp; omega
        clear hE2 hdc hc HE
        go_wp2
        go_roundw
        case rel => exact ⟨p, k + 1, ps, rfl, by go_num, by omega, by omega, hown, hpl, HE2, HZ, hb, HN⟩
        case measure => simp [intOf]; omega
    · obtain rfl : k = s.size := by omega
      have hE2 := unhide HE
      rw [List.drop_of_length_le (by simp), splitGo_end] at hE2
      by_cases hps : p < s.size
      · rw [if_neg (by rw [piece_empty s p s.size (Nat.le_refl _) (by omega)]; omega)] at hE2
        have HE2 := hide hE2
        clear hE2 HE
        go_wp2_with (at_builtin; go_must (refine wpList_append1 rfl _ _ 22 rfl w.heap.size 9 i0 (.string ByteArray.empty) 16 Ydkm.underlying22 hi hz0 hz1 hz2 rfl u3 (ps.map Value.string) rfl wr (.string (s.extract p s.size)) rfl hown hBr rfl (by omega) (by unfold maxLen; omega) ?_); intro v3 w3 hu3 hg3 hat3 hne3)
        have R1 : Own w3 w.heap.size 9 v3 ((ps ++ [s.extract p s.size]).map Value.string) := by rw [List.map_append]; exact hu3
        have R2 := Below.of_grown hb hown hBr hg3
        have R3 : Hid (texts (ps ++ [s.extract p s.size]) = splitGo [] s.data.toList) := by
          have h := unhide HE2
          show _ = _
          rw [texts_append, ← h]
          simp [texts, piece_extract, piece]
        have R4 : Hid (∀ q ∈ ps ++ [s.extract p s.size], q.size ≤ s.size) := fun q hq => by
          rcases List.mem_append.1 hq with hq | hq
          · exact unhide HZ q hq
          · simp at hq; subst hq; rw [ByteArray.size_extract]; omega
        have R5 : Hid (v3 = .slice none 0 0 ↔ ps ++ [s.extract p s.size] = []) := by show _ ↔ _; simp [hne3]
        have R6 : (ps ++ [s.extract p s.size]).length ≤ s.size := by simp; omega
        clear hu3 hg3 hat3 hne3 hown hb HZ HN HE2
        go_wp2
        go_ret
        exact ⟨_, _, rfl, R1, R3, R6, unhide R4, R2, unhide R5⟩
      · rw [if_pos ((piece_empty s p s.size (Nat.le_refl _) (by omega)).2 (by omega)), List.append_nil] at hE2
        have HE2 := hide hE2
        clear hE2 HE
        go_wp2
        go_ret
        exact ⟨_, _, rfl, hown, HE2, by omega, unhide HZ, hb, unhide HN⟩
end Go.Proofs.Ymbrdk
