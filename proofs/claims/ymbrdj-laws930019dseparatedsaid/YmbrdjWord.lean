import Derived.Test.YmbrdjSpace
set_option linter.unusedSimpArgs false
set_option linter.unusedVariables false
namespace Go.Proofs.Ymbrdj
open Go.RowKit

theorem all_take_succ (s : ByteArray) (k : Nat) (h : k < s.size) (ha : ((s.data.toList.take k).all fun c => !isSp c) = true) (hn : spB (s[k].toNat : Int) = false) :
    ((s.data.toList.take (k + 1)).all fun c => !isSp c) = true := by
  rw [take_snoc s k h, List.all_append, ha]; simp [isSp, hn]
theorem not_all (s : ByteArray) (k : Nat) (h : k < s.size) (hn : spB (s[k].toNat : Int) = true) : isWordB s.data.toList = false := by
  unfold isWordB
  rw [← List.take_append_drop k s.data.toList, drop_cons s k h]; simp [isSp, hn]

set_option maxHeartbeats 400000 in
theorem isWord_any (s : ByteArray) (w : World) (hs : s.size ≤ maxLen) :
    Calls Ydjm.prog 23 #[.string s] w fun e w' => e = .returned (.bool (isWordB s.data.toList)) ∧ w' = w := by
  unfold maxLen at hs
  go_enter Ydjm.func23, Ydjm.ntmps23
  go_wp2
  go_loop [3] (fun i => ∃ k : Nat, k ≤ s.size ∧ i = .int .i64 k ∧ ((s.data.toList.take k).all fun c => !isSp c) = true) (fun i => s.size - (intOf i).toNat)
  case atStart => exact ⟨0, Nat.zero_le _, rfl, rfl⟩
  case round =>
    obtain ⟨k, hk, rfl, ha⟩ := hrel
    have HA := hide ha; clear ha
    by_cases hlt : k < s.size
    · cases hsp : spB (s[k].toNat : Int)
      · have H := hide hsp
        go_wp2_with (go_at_call 27; refine (isSpace_any _ _).mono ?_; rintro e w' ⟨rfl, rfl⟩)
        go_round
        case rel => exact ⟨k + 1, by omega, by go_num, all_take_succ s k hlt (unhide HA) (unhide H)⟩
        case measure => simp [intOf]; omega
      · have H := hide hsp
        go_wp2_with (go_at_call 27; refine (isSpace_any _ _).mono ?_; rintro e w' ⟨rfl, rfl⟩)
        go_ret
        exact ⟨ret_bool (not_all s k hlt (unhide H)).symm, rfl⟩
    · go_wp2
      go_ret
      refine ⟨ret_bool ?_, rfl⟩
      have ha := unhide HA
      rw [List.take_of_length_le (by simp; omega)] at ha
      unfold isWordB
      rw [ha]
      have he : s.data.toList.isEmpty = decide (s.size = 0) := by
        rw [show s.size = s.data.toList.length from by simp]; cases s.data.toList <;> simp
      rw [he]; by_cases h0 : s.size = 0 <;> simp [h0] <;> omega

theorem plain_step (s : ByteArray) (k : Nat) (h : k < s.size) : ((plains (s.data.toList.drop k)).length : Int) = (plains (s.data.toList.drop (k + 1))).length + if isSp s[k] then 0 else 1 := by
  rw [drop_cons s k h]; exact plains_len_cons _ _

set_option maxHeartbeats 400000 in
theorem dplain_any (s : ByteArray) (w : World) (hs : s.size ≤ maxLen) :
    Calls Ydjm.prog 22 #[.string s] w fun e w' => e = .returned (.int .i64 (plains s.data.toList).length) ∧ w' = w := by
  unfold maxLen at hs
  go_enter Ydjm.func22, Ydjm.ntmps22
  go_wp2
  go_loop [3, 4] (fun n i => ∃ k : Nat, k ≤ s.size ∧ i = .int .i64 (k - 1 : Int) ∧ n = .int .i64 (plains (s.data.toList.drop k)).length) (fun _ i => (intOf i + 1).toNat)
  case atStart => exact ⟨s.size, Nat.le_refl _, rfl, by rw [List.drop_of_length_le (by simp)]; rfl⟩
  case round =>
    obtain ⟨k, hk, rfl, rfl⟩ := hrel
    by_cases hlt : 0 < k
    · obtain ⟨j, rfl⟩ : ∃ j, k = j + 1 := ⟨k - 1, by omega⟩
      have hj : j < s.size := by omega
      have e1 : ((j + 1 : Nat) : Int) - 1 = (j : Int) := by omega
      rw [e1]; clear e1
      have hle : (plains (s.data.toList.drop (j + 1))).length + (j + 1) ≤ s.size := by
        have := plains_le (s.data.toList.drop (j + 1)); simp at this; omega
      have H := hide (plain_step s j hj)
      generalize (plains (s.data.toList.drop (j + 1))).length = m at *
      go_wp2
      all_goals
        go_round
        case rel => exact ⟨j, by omega, by go_num, by rw [unhide H]; simp_all [isSp, spB]⟩
        case measure => simp [intOf]
    · go_wp2
      go_ret
      obtain rfl : k = 0 := by omega
      exact ⟨rfl, rfl⟩
end Go.Proofs.Ymbrdj
