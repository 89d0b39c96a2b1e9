import Derived.Test.YmbrdkHExact
import Derived.Test.YmbrdkHRoundP
set_option linter.unusedSimpArgs false
set_option linter.unusedVariables false
namespace Go.Proofs.Ymbrdk
open Go.RowKit

theorem info5h : (Ydkm.prog.info? 5).map (fun i => (i.zero, i.size, i.bytes)) = some (some (.int .u8 0), 1, 1) := by kernel_rfl

def us (c : UInt8) : UInt8 := if isSp c then 95 else c
theorem us_no (c : UInt8) : isSp (us c) = false := by
  unfold us
  cases h : isSp c
  · simpa using h
  · rw [if_pos rfl]; decide

set_option maxHeartbeats 800000 in
theorem hword_any (s : ByteArray) (w : World) (hs : s.size ≤ 1048576) :
    Calls Ydkm.prog 27 #[.string s] w fun e w' => ∃ r : ByteArray, e = .returned (.string r) ∧ Hid (NoSp r.data.toList) ∧ Hid (r.data.toList ≠ []) ∧ r.size ≤ s.size + 1 ∧ Below w.heap.size w w' := by
  obtain ⟨i0, hi, hz0, hz1, hz2⟩ := info_parts info5h
  by_cases h0 : s.size < 1
  · have h0' : ((s.size : Int) == 0) = true := by rw [beq_iff_eq]; omega
    go_enter Ydkm.func27, Ydkm.ntmps27
    go_wp2
    go_ret
    exact ⟨⟨#[119]⟩, rfl, by intro c hc; simp at hc; subst hc; decide, by simp [Hid], by have : (⟨#[119]⟩ : ByteArray).size = 1 := rfl; omega, Below.refl _ _⟩
  have h0' : ((s.size : Int) == 0) = false := beq_eq_false_iff_ne.2 (by omega)
  go_enter Ydkm.func27, Ydkm.ntmps27
  go_wp2
  go_loopw [3, 4] (fun v i wr => ∃ k : Nat, k ≤ s.size ∧ i = .int .i64 k ∧ Buf wr w.heap.size v ((s.data.toList.take k).map us) ∧ Below w.heap.size w wr) (fun _ i _ => s.size - (intOf i).toNat)
  case atStart => exact ⟨0, Nat.zero_le _, rfl, Buf.nil _ _, Below.refl _ _⟩
  case round =>
    obtain ⟨k, hk, rfl, hu, hb⟩ := hrel
    by_cases hlt : k < s.size
    · have hl1 : (bytesV ((s.data.toList.take k).map us)).length ≤ 1048576 := by rw [bytesV_length, List.length_map, List.length_take]; omega
      have HT := hide (take_snoc s k hlt)
      have hBr := hb.size
      cases hsp : spB (s[k].toNat : Int)
      · have HC := hide hsp
        go_wp2_with (first | (go_at_call 26; refine (hspace_any _ _).mono ?_; rintro e w' ⟨rfl, hw⟩; obtain rfl := hw.symm) | (at_builtin; go_must (refine wpList_append1 rfl _ _ 41 rfl w.heap.size 5 i0 (.int .u8 0) 1 Ydkm.underlying41 hi hz0 hz1 hz2 rfl u3 _ rfl wr (.int .u8 s[k].toNat) rfl hu hBr rfl (by omega) (by unfold maxLen; omega) ?_); intro v3 w3 hu3 hg3 hat3 hne3))
        have R1 : Buf w3 w.heap.size v3 ((s.data.toList.take (k + 1)).map us) := by
          rw [unhide HT, List.map_append, Buf, bytesV_append]
          have e : bytesV (List.map us [s[k]]) = [.int .u8 s[k].toNat] := by simp [bytesV, us, isSp, unhide HC]
          rw [e]; exact hu3
        have R2 := Below.of_grown hb hu hBr hg3
        clear hu3 hg3 hat3 hne3 hu hb
        go_wp2
        go_roundw
        case rel => exact ⟨k + 1, by omega, by go_num, R1, R2⟩
        case measure => simp [intOf]; omega
      · have HC := hide hsp
        go_wp2_with (first | (go_at_call 26; refine (hspace_any _ _).mono ?_; rintro e w' ⟨rfl, hw⟩; obtain rfl := hw.symm) | (at_builtin; go_must (refine wpList_append1 rfl _ _ 41 rfl w.heap.size 5 i0 (.int .u8 0) 1 Ydkm.underlying41 hi hz0 hz1 hz2 rfl u3 _ rfl wr (.int .u8 95) rfl hu hBr rfl (by omega) (by unfold maxLen; omega) ?_); intro v3 w3 hu3 hg3 hat3 hne3))
        have R1 : Buf w3 w.heap.size v3 ((s.data.toList.take (k + 1)).map us) := by
          rw [unhide HT, List.map_append, Buf, bytesV_append]
          have e : bytesV (List.map us [s[k]]) = [.int .u8 95] := by simp [bytesV, us, isSp, unhide HC]
          rw [e]; exact hu3
        have R2 := Below.of_grown hb hu hBr hg3
        clear hu3 hg3 hat3 hne3 hu hb
        go_wp2
        go_roundw
        case rel => exact ⟨k + 1, by omega, by go_num, R1, R2⟩
        case measure => simp [intOf]; omega
    · rw [List.take_of_length_le (by simp; omega)] at hu
      obtain ⟨r, hr⟩ : ∃ r : ByteArray, r = ⟨(s.data.toList.map us).toArray⟩ := ⟨_, rfl⟩
      have hrd : r.data.toList = s.data.toList.map us := by rw [hr]
      have H1 : Hid (NoSp r.data.toList) := by
        intro c hc
        rw [hrd] at hc
        obtain ⟨d, _, rfl⟩ := List.mem_map.1 hc
        exact us_no d
      have hrz : r.size = s.size := by
        have := congrArg List.length hrd
        simpa using this
      have H2 : Hid (r.data.toList ≠ []) := fun h => by
        have h9 := congrArg List.length h
        rw [show r.data.toList.length = r.size by simp, List.length_nil] at h9
        omega
      have hrz2 : r.size ≤ s.size + 1 := by omega
      have hcv := run_string_of_buf (P := Ydkm.prog) wr 41 9 Ydkm.underlying41 Ydkm.underlying5 Ydkm.underlying9 hu
      rw [← hr] at hcv
      clear hu hr hrd hrz
      go_wp2
      go_ret
      exact ⟨r, rfl, unhide H1, unhide H2, hrz2, hb⟩
end Go.Proofs.Ymbrdk
