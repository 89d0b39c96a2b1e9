import Derived.Test.YmbrdlAlign
import Derived.Test.YmbrdlOpen
set_option linter.unusedSimpArgs false
set_option linter.unusedVariables false
namespace Go.Proofs.Ymbrdl
open Go.RowKit

theorem toArr_size (l : List UInt8) : (⟨l.toArray⟩ : ByteArray).size = l.length := by simp [ByteArray.size]

set_option maxHeartbeats 800000 in
theorem lEdge_walk (a0 : ByteArray) (a1 a2 : Int) (w : World) (w0 : a0.size ≤ maxLen) (w1 : (Lit.int .u8 a1).wf = true) (w2 : (Lit.int .u8 a2).wf = true) :
    Calls Ydlm.prog 14 #[.string a0, .int .u8 a1, .int .u8 a2] w fun e w' => e = .returned (.bool true) ∧ Below w.heap.size w w' := by
  obtain ⟨hb1, hb2⟩ := bounds_u8 w1
  obtain ⟨hc1, hc2⟩ := bounds_u8 w2
  clear w1 w2
  have w0' := w0
  unfold maxLen at w0'
  by_cases hbig : 4096 < a0.size
  · go_enter Ydlm.func14, Ydlm.ntmps14
    go_wp2
    go_ret
    exact ⟨rfl, Below.refl _ _⟩
  obtain ⟨x, hx, hx5⟩ : ∃ x : Nat, a1 % 5 = (x : Int) ∧ x < 5 := ⟨(a1 % 5).toNat, by omega, by omega⟩
  obtain ⟨m, hm, hm3⟩ : ∃ m : Nat, a2 % 3 = (m : Int) ∧ m < 3 := ⟨(a2 % 3).toNat, by omega, by omega⟩
  go_enter Ydlm.func14, Ydlm.ntmps14
  by_cases hw : 2 < x
  · go_wp2_with fail
    refine (align_no _ _ _ _ w0 (by omega) (by omega)).mono ?_
    rintro e w' ⟨rfl, rfl⟩
    go_wp2
    go_ret
    exact ⟨rfl, Below.refl _ _⟩
  · go_wp2_with fail
    have hlen := alignL_length a0.data.toList (65534 + (x : Int)).toNat m (by rw [data_len]; omega)
    refine (align_yesI _ _ _ _ (by omega) (by omega) (by omega) (by omega)).mono ?_
    generalize alignL a0.data.toList (65534 + (x : Int)).toNat m = L at *
    rintro e w' ⟨rfl, hb⟩
    have HB := hide hb
    have HL := hide hlen
    clear hb hlen
    go_wp2
    go_ret
    exact ⟨ret_bool (by have h := unhide HL; simp [ByteArray.size]; omega), unhide HB⟩
end Go.Proofs.Ymbrdl
