import Derived.Test.YmbrdjWord
set_option linter.unusedSimpArgs false
set_option linter.unusedVariables false
namespace Go.Proofs.Ymbrdj
open Go.RowKit

set_option maxHeartbeats 400000 in
theorem dsep_any (n : Int) (w : World) (hn : (Lit.int .u8 n).wf = true) :
    Calls Ydjm.prog 24 #[.int .u8 n] w fun e w' => (∃ c : UInt8, isSp c = true ∧ e = .returned (.string ⟨#[c]⟩)) ∧ w' = w := by
  go_enter Ydjm.func24, Ydjm.ntmps24
  go_wp2
  all_goals go_ret
  · exact ⟨⟨32, by decide, rfl⟩, rfl⟩
  · exact ⟨⟨9, by decide, rfl⟩, rfl⟩
  · exact ⟨⟨10, by decide, rfl⟩, rfl⟩
  · exact ⟨⟨13, by decide, rfl⟩, rfl⟩

theorem data_app (a b : ByteArray) : (a ++ b).data.toList = a.data.toList ++ b.data.toList := by simp
theorem no_left (c : UInt8) (b : ByteArray) (h : isSp c = true) : isWordB ((⟨#[c]⟩ : ByteArray) ++ b).data.toList = false := by
  rw [data_app]; simp [isWordB, h]
theorem no_right (c : UInt8) (a : ByteArray) (h : isSp c = true) : isWordB (a ++ (⟨#[c]⟩ : ByteArray)).data.toList = false := by
  rw [data_app]; simp [isWordB, h]
theorem no_mid (c : UInt8) (a b : ByteArray) (h : isSp c = true) : isWordB (a ++ (⟨#[c]⟩ : ByteArray) ++ b).data.toList = false := by
  rw [data_app, data_app]; simp [isWordB, h]
theorem isWord_no (s : ByteArray) (w : World) (hs : s.size ≤ maxLen) (hn : isWordB s.data.toList = false) :
    Calls Ydjm.prog 23 #[.string s] w fun e w' => e = .returned (.bool false) ∧ w' = w := by
  refine (isWord_any s w hs).mono ?_
  rintro e w' ⟨rfl, rfl⟩
  exact ⟨by rw [hn], rfl⟩

theorem x_midl (a b : List UInt8) : isWordB (a ++ 120 :: b) = (decide ((plains a).length = a.length) && decide ((plains b).length = b.length)) := by
  have h120 : isSp 120 = false := by decide
  unfold isWordB
  rw [List.all_append, List.all_cons, all_iff_plains, all_iff_plains, h120]
  have : (a ++ 120 :: b).isEmpty = false := by cases a <;> rfl
  rw [this]
  simp only [Bool.not_false, Bool.true_and, Nat.beq_eq_true_eq, Bool.beq_eq_decide_eq]
theorem x_mid (a b : ByteArray) : isWordB (a.data.toList ++ 120 :: b.data.toList) = (decide ((plains a.data.toList).length = a.size) && decide ((plains b.data.toList).length = b.size)) := by
  rw [x_midl]
  simp

set_option maxHeartbeats 400000 in
theorem dSeparated_walk (a0 a1 : ByteArray) (a2 : Int) (w : World) (w0 : a0.size ≤ maxLen) (w1 : a1.size ≤ maxLen) (w2 : (Lit.int .u8 a2).wf = true) :
    Calls Ydjm.prog 14 #[.string a0, .string a1, .int .u8 a2] w fun e w' => e = .returned (.bool true) ∧ Below w.heap.size w w' := by
  unfold maxLen at w0 w1
  by_cases hb0 : 4096 < a0.size
  · go_enter Ydjm.func14, Ydjm.ntmps14
    go_wp2
    go_ret
    exact ⟨rfl, Below.refl _ _⟩
  by_cases hb1 : 4096 < a1.size
  · go_enter Ydjm.func14, Ydjm.ntmps14
    go_wp2
    go_ret
    exact ⟨rfl, Below.refl _ _⟩
  go_enter Ydjm.func14, Ydjm.ntmps14
  go_wp2_with fail
  refine (dsep_any _ _ w2).mono ?_
  rintro e w' ⟨⟨c, hc, rfl⟩, rfl⟩
  have HC := hide hc; clear hc
  have hx : ∀ s : ByteArray, (⟨#[c]⟩ : ByteArray).size + s.size = s.size + 1 := fun s => by have h1 : (⟨#[c]⟩ : ByteArray).size = 1 := rfl; omega
  go_wp2_with fail
  refine (isWord_no _ _ ?_ (no_left c a1 (unhide HC))).mono ?_
  · rw [ByteArray.size_append]; unfold maxLen; rw [hx]; omega
  rintro e w' ⟨rfl, rfl⟩
  go_wp2_with fail
  refine (isWord_no _ _ ?_ (no_right c a0 (unhide HC))).mono ?_
  · rw [ByteArray.size_append]; unfold maxLen; rw [Nat.add_comm, hx]; omega
  rintro e w' ⟨rfl, rfl⟩
  go_wp2_with fail
  refine (isWord_no _ _ ?_ (no_mid c a0 a1 (unhide HC))).mono ?_
  · rw [ByteArray.size_append, ByteArray.size_append]; unfold maxLen; have := hx a0; omega
  rintro e w' ⟨rfl, rfl⟩
  clear hx
  have hp0 := plains_le a0.data.toList
  have hp1 := plains_le a1.data.toList
  have e0 : a0.data.toList.length = a0.size := by simp
  have e1 : a1.data.toList.length = a1.size := by simp
  rw [e0] at hp0
  rw [e1] at hp1
  clear e0 e1
  have HM := hide (x_mid a0 a1)
  go_wp2_with fail
  refine (dplain_any _ _ w0).mono ?_
  rintro e w' ⟨rfl, rfl⟩
  generalize (plains a0.data.toList).length = m0 at *
  have hsx : (a0 ++ (⟨#[120]⟩ : ByteArray) ++ a1).size ≤ maxLen := by
    rw [ByteArray.size_append, ByteArray.size_append]; unfold maxLen; have h1 : (⟨#[120]⟩ : ByteArray).size = 1 := rfl; omega
  cases hA : ((m0 : Int) == (a0.size : Int))
  · go_wp2_with fail
    refine (isWord_any _ _ hsx).mono ?_
    rintro e w' ⟨rfl, rfl⟩
    go_wp2
    go_ret
    refine ⟨ret_bool ?_, Below.refl _ _⟩
    rw [unhide HM]
    have hA' : ¬ m0 = a0.size := by simpa [Int.natCast_inj] using hA
    simp [hA']
  · go_wp2_with fail
    refine (dplain_any _ _ w1).mono ?_
    rintro e w' ⟨rfl, rfl⟩
    go_wp2_with fail
    refine (isWord_any _ _ hsx).mono ?_
    rintro e w' ⟨rfl, rfl⟩
    go_wp2
    go_ret
    refine ⟨ret_bool ?_, Below.refl _ _⟩
    rw [unhide HM]
    have hA' : m0 = a0.size := by simpa [Int.natCast_inj] using hA
    by_cases h1 : (plains a1.data.toList).length = a1.size
    · simp [hA', h1]
    · have h2 : ¬ ((plains a1.data.toList).length : Int) = (a1.size : Int) := by omega
      simp [hA', h1, h2]
end Go.Proofs.Ymbrdj
