import Derived.Test.YmbrdlAlign
import Derived.Test.YmbrdlOpen
set_option linter.unusedSimpArgs false
set_option linter.unusedVariables false
namespace Go.Proofs.Ymbrdl
open Go.RowKit

theorem spaces_add (a b : Nat) : spaces (a + b) = spaces a ++ spaces b := by simp [spaces]

/-- To center is to align right within half, and then left within all. -/
theorem center_eq (l : List UInt8) (p : Nat) : alignL (alignL l (l.length + p / 2) 1) (l.length + p) 0 = alignL l (l.length + p) 2 := by
  have h := alignL_length l (l.length + p / 2) 1 (by omega)
  have e1 : alignL l (l.length + p / 2) 1 = spaces (p / 2) ++ l := by
    simp [alignL, befN, Nat.add_sub_cancel_left, spaces]
  rw [alignL, h, e1]
  have e2 : l.length + p - (l.length + p / 2) = p - p / 2 := by omega
  simp [alignL, befN, Nat.add_sub_cancel_left, spaces, e2]

set_option maxHeartbeats 800000 in
theorem lCenter_walk (a0 : ByteArray) (a1 : Int) (w : World) (w0 : a0.size ≤ maxLen) (w1 : (Lit.int .u16 a1).wf = true) :
    Calls Ydlm.prog 13 #[.string a0, .int .u16 a1] w fun e w' => e = .returned (.bool true) ∧ Below w.heap.size w w' := by
  obtain ⟨hb1, hb2⟩ := bounds_u16 w1
  clear w1
  have w0' := w0
  unfold maxLen at w0'
  by_cases hbig : 4096 < a0.size
  · go_enter Ydlm.func13, Ydlm.ntmps13
    go_wp2
    go_ret
    exact ⟨rfl, Below.refl _ _⟩
  obtain ⟨p, hp, hp5⟩ : ∃ p : Nat, a1 % 1024 = (p : Int) ∧ p < 1024 := ⟨(a1 % 1024).toNat, by omega, by omega⟩
  go_enter Ydlm.func13, Ydlm.ntmps13
  go_wp2_with fail
  refine (align_str _ _ _ _ (by omega) (by omega) (by omega) (by omega)).mono ?_
  rintro e w1 ⟨r1, rfl, L1, Z1, hb1⟩
  have hne : ((r1.size : Int) != (a0.size : Int) + (p : Int)) = false := by have := unhide Z1; simp; omega
  go_wp2_with fail
  refine (align_str _ _ _ _ (by omega) (by omega) (by omega) (by omega)).mono ?_
  rintro e w2 ⟨r2, rfl, L2, Z2, hb2⟩
  clear hne
  have hz2 : (r2.size : Int) ≤ (a0.size : Int) + p := by have := unhide Z2; omega
  go_wp2_with fail
  refine (align_str _ _ _ _ (by omega) (by omega) (by omega) (by omega)).mono ?_
  rintro e w3 ⟨r3, rfl, L3, Z3, hb3⟩
  have HE : Hid (r3.data.toList = r1.data.toList) := by
    have l1 := unhide L1; have l2 := unhide L2; have l3 := unhide L3
    show _ = _
    rw [l3, l2, l1]
    have := center_eq a0.data.toList p
    rw [data_len] at this
    rw [show ((a0.size : Int) + (p : Int)).toNat = a0.size + p by omega, show ((a0.size : Int) + (p : Int) / 2).toNat = a0.size + p / 2 by omega]
    exact this
  have HB : Hid (Below w.heap.size w w3) := (hb1.trans (hb2.mono hb1.size)).trans (hb3.mono (Nat.le_trans hb1.size hb2.size))
  clear hb1 hb2 hb3 L1 L2 L3 Z1 Z2 Z3
  go_wp2
  go_ret
  refine ⟨ret_bool ?_, unhide HB⟩
  rw [ByteArray.toList_eq, ByteArray.toList_eq, unhide HE]; simp
end Go.Proofs.Ymbrdl
