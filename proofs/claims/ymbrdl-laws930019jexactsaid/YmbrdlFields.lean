import Derived.Test.YmbrdlSpace
import Derived.Test.YmbrdlKit2
import Derived.Test.YmbrdlSplitP
import Derived.Deep.DeepMust
set_option linter.unusedSimpArgs false
set_option linter.unusedVariables false
namespace Go.Proofs.Ymbrdl
open Go.RowKit

theorem info9f : (Ydlm.prog.info? 9).map (fun i => (i.zero, i.size, i.bytes)) = some (some (.string ByteArray.empty), 1, 16) := by kernel_rfl

def textsF (ps : List ByteArray) : List (List UInt8) := ps.map fun s => s.data.toList
theorem textsF_append (a b : List ByteArray) : textsF (a ++ b) = textsF a ++ textsF b := by simp [textsF]
theorem textsF_length (a : List ByteArray) : (textsF a).length = a.length := by simp [textsF]

set_option maxHeartbeats 1600000 in
theorem fields_any (s : ByteArray) (w : World) (hs : s.size ≤ 1073741824) :
    Calls Ydlm.prog 32 #[.string s] w fun e w' => ∃ v ps, e = .returned v ∧ Own w' w.heap.size 9 v (ps.map Value.string) ∧ Hid (textsF ps = fieldsGo [] s.data.toList) ∧ ps.length ≤ s.size ∧ (∀ p ∈ ps, p.size ≤ s.size) ∧ Below w.heap.size w w' := by
  obtain ⟨i0, hi, hz0, hz1, hz2⟩ := info_parts info9f
  go_enter Ydlm.func32, Ydlm.ntmps32
  go_wp2
  go_loopw [3, 4, 5] (fun v st i wr => ∃ (p k : Nat) (ps : List ByteArray), st = .int .i64 p ∧ i = .int .i64 k ∧ p ≤ k ∧ k ≤ s.size ∧ Own wr w.heap.size 9 v (ps.map Value.string) ∧ ps.length ≤ p ∧ Hid (textsF ps ++ fieldsGo (piece s p k) (s.data.toList.drop k) = fieldsGo [] s.data.toList) ∧ Hid (∀ p ∈ ps, p.size ≤ s.size) ∧ Below w.heap.size w wr) (fun _ _ i _ => s.size - (intOf i).toNat)
  case atStart => exact ⟨0, 0, [], rfl, rfl, Nat.le_refl _, Nat.zero_le _, Own.nil _ _ _, Nat.le_refl _, by simp [Hid, textsF, piece], by simp [Hid], Below.refl _ _⟩
  case round =>
    obtain ⟨p, k, ps, rfl, rfl, hpk, hks, hown, hpl, HE, HZ, hb⟩ := hrel
    have hBr := hb.size
    have hml : (ps.map Value.string).length ≤ 1073741824 := by rw [List.length_map]; omega
    by_cases hlt : k < s.size
    · have hdc := drop_cons s k hlt
      cases hsp : spB (s[k].toNat : Int)
      · have hE2 := unhide HE
        rw [hdc, fieldsGo_other _ _ _ hsp, ← piece_succ s p k hpk hlt] at hE2
        have HE2 := hide hE2
        clear hE2 hdc HE
        go_wp2_with (go_at_call 38; refine (isSpace_any _ _).mono ?_; rintro e w' ⟨rfl, hw⟩; obtain rfl := hw.symm)
        go_roundw
        case rel => exact ⟨p, k + 1, ps, rfl, by go_num, by omega, by omega, hown, hpl, HE2, HZ, hb⟩
        case measure => simp [intOf]; omega
      · have hE2 := unhide HE
        rw [hdc, fieldsGo_sp _ _ _ hsp] at hE2
        by_cases hpe : p < k
        · rw [if_neg (by rw [piece_empty s p k hks hpk]; omega)] at hE2
          have HE2 := hide hE2
          clear hE2 hdc HE
          go_wp2_with (first | (go_at_call 38; refine (isSpace_any _ _).mono ?_; rintro e w' ⟨rfl, hw⟩; obtain rfl := hw.symm) | (at_builtin; go_must (refine wpList_append1 rfl _ _ 22 rfl w.heap.size 9 i0 (.string ByteArray.empty) 16 Ydlm.underlying22 hi hz0 hz1 hz2 rfl u3 (ps.map Value.string) rfl wr (.string (s.extract p k)) rfl hown hBr rfl (by omega) (by unfold maxLen; omega) ?_); intro v3 w3 hu3 hg3 hat3 hne3))
          have R1 : Own w3 w.heap.size 9 v3 ((ps ++ [s.extract p k]).map Value.string) := by rw [List.map_append]; exact hu3
          have R2 := Below.of_grown hb hown hBr hg3
          have R3 : Hid (textsF (ps ++ [s.extract p k]) ++ fieldsGo (piece s (k + 1) (k + 1)) (s.data.toList.drop (k + 1)) = fieldsGo [] s.data.toList) := by
            have h := unhide HE2
            show _ = _
            rw [textsF_append, piece_nil, List.append_assoc]
            rw [← h]
            simp [textsF, piece_extract, piece]
          have R4 : Hid (∀ q ∈ ps ++ [s.extract p k], q.size ≤ s.size) := fun q hq => by
            rcases List.mem_append.1 hq with hq | hq
            · exact unhide HZ q hq
            · simp at hq; subst hq; rw [ByteArray.size_extract]; omega
          clear hu3 hg3 hat3 hne3 hown hb HZ HE2
          go_wp2
          go_roundw
          case rel => exact ⟨k + 1, k + 1, _, by go_num, by go_num, Nat.le_refl _, by omega, R1, by simp; omega, R3, R4, R2⟩
          case measure => simp [intOf]; omega
        · rw [if_pos ((piece_empty s p k hks hpk).2 (by omega))] at hE2
          have R3 : Hid (textsF ps ++ fieldsGo (piece s (k + 1) (k + 1)) (s.data.toList.drop (k + 1)) = fieldsGo [] s.data.toList) := by
            show _ = _
            rw [piece_nil]; exact hE2
          clear hE2 hdc HE
          go_wp2_with (go_at_call 38; refine (isSpace_any _ _).mono ?_; rintro e w' ⟨rfl, hw⟩; obtain rfl := hw.symm)
          go_roundw
          case rel => exact ⟨k + 1, k + 1, ps, by go_num, by go_num, Nat.le_refl _, by omega, hown, by omega, R3, HZ, hb⟩
          case measure => simp [intOf]; omega
    · obtain rfl : k = s.size := by omega
      have hE2 := unhide HE
      rw [List.drop_of_length_le (by simp), fieldsGo_end] at hE2
      by_cases hps : p < s.size
      · rw [if_neg (by rw [piece_empty s p s.size (Nat.le_refl _) (by omega)]; omega)] at hE2
        have HE2 := hide hE2
        clear hE2 HE
        go_wp2_with (at_builtin; go_must (refine wpList_append1 rfl _ _ 22 rfl w.heap.size 9 i0 (.string ByteArray.empty) 16 Ydlm.underlying22 hi hz0 hz1 hz2 rfl u3 (ps.map Value.string) rfl wr (.string (s.extract p s.size)) rfl hown hBr rfl (by omega) (by unfold maxLen; omega) ?_); intro v3 w3 hu3 hg3 hat3 hne3)
        have R1 : Own w3 w.heap.size 9 v3 ((ps ++ [s.extract p s.size]).map Value.string) := by rw [List.map_append]; exact hu3
        have R2 := Below.of_grown hb hown hBr hg3
        have R3 : Hid (textsF (ps ++ [s.extract p s.size]) = fieldsGo [] s.data.toList) := by
          have h := unhide HE2
          show _ = _
          rw [textsF_append, ← h]
          simp [textsF, piece_extract, piece]
        have R4 : Hid (∀ q ∈ ps ++ [s.extract p s.size], q.size ≤ s.size) := fun q hq => by
          rcases List.mem_append.1 hq with hq | hq
          · exact unhide HZ q hq
          · simp at hq; subst hq; rw [ByteArray.size_extract]; omega
        have R6 : (ps ++ [s.extract p s.size]).length ≤ s.size := by simp; omega
        clear hu3 hg3 hat3 hne3 hown hb HZ HE2
        go_wp2
        go_ret
        exact ⟨_, _, rfl, R1, R3, R6, unhide R4, R2⟩
      · rw [if_pos ((piece_empty s p s.size (Nat.le_refl _) (by omega)).2 (by omega)), List.append_nil] at hE2
        have HE2 := hide hE2
        clear hE2 HE
        go_wp2
        go_ret
        exact ⟨_, _, rfl, hown, HE2, by omega, unhide HZ, hb⟩
end Go.Proofs.Ymbrdl
