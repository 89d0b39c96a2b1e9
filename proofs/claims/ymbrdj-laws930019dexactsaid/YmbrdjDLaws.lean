import Derived.Test.YmbrdjWord
set_option linter.unusedSimpArgs false
set_option linter.unusedVariables false
namespace Go.Proofs.Ymbrdj
open Go.RowKit

theorem isWordB_eq (l : List UInt8) : isWordB l = (!l.isEmpty && ((plains l).length == l.length)) := by
  unfold isWordB; rw [all_iff_plains]

set_option maxHeartbeats 400000 in
theorem dExact_walk (a0 : ByteArray) (w : World) (w0 : a0.size ≤ maxLen) :
    Calls Ydjm.prog 12 #[.string a0] w fun e w' => e = .returned (.bool true) ∧ Below w.heap.size w w' := by
  have hle := plains_le a0.data.toList
  have hsz : a0.data.toList.length = a0.size := by simp
  rw [hsz] at hle; clear hsz
  have H := hide (isWordB_eq a0.data.toList)
  go_enter Ydjm.func12, Ydjm.ntmps12
  go_wp2_with (first | (go_at_call 22; refine (dplain_any _ _ w0).mono ?_; rintro e w' ⟨rfl, rfl⟩) | (go_at_call 23; refine (isWord_any _ _ w0).mono ?_; rintro e w' ⟨rfl, rfl⟩))
  · go_ret
    refine ⟨ret_bool ?_, Below.refl _ _⟩
    have h0 : a0.toList = [] := by assumption
    rw [ByteArray.toList_eq] at h0
    rw [unhide H, h0]; rfl
  · go_ret
    refine ⟨ret_bool ?_, Below.refl _ _⟩
    have h0 : ¬ a0.toList = [] := by assumption
    rw [ByteArray.toList_eq] at h0 ⊢
    rw [unhide H, beq_iff_eq]
    cases he : a0.data.toList.isEmpty
    · simp [Bool.beq_eq_decide_eq]
      have hz : (a0.data.toList.length : Int) = a0.size := by simp
      simp only [← hz, Int.natCast_inj]
      rfl
    · simp
end Go.Proofs.Ymbrdj
