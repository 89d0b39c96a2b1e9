import Derived.Test.YmbrdlRows
import Derived.Test.YmbrdlBytes
import Derived.WalkKit
import Derived.WalkSpells
import Derived.WalkLawsBesides
import Derived.Deep.DeepMust
set_option linter.unusedSimpArgs false
set_option linter.unusedVariables false
namespace Go.Proofs.Ymbrdl
open Go.RowKit

theorem Ydlm.info5 : (Ydlm.prog.info? 5).map (fun i => (i.zero, i.size, i.bytes)) = some (some (.int .u8 0), 1, 1) := by kernel_rfl

def spaces (n : Nat) : List UInt8 := List.replicate n 32
theorem spaces_succ (n : Nat) : spaces (n + 1) = spaces n ++ [32] := by simp [spaces, List.replicate_succ']
theorem spaces_length (n : Nat) : (spaces n).length = n := by simp [spaces]

set_option maxHeartbeats 800000 in
theorem appendSpaces_any (B : Nat) (v : Value) (l : List UInt8) (n : Int) (w : World) (hb : Buf w B v l) (hB : B ≤ w.heap.size) (hn1 : n ≤ 4294967296) (hl : l.length ≤ 4294967296) :
    Calls Ydlm.prog 37 #[v, .int .i64 n] w fun e w' => ∃ v', e = .returned v' ∧ Buf w' B v' (l ++ spaces n.toNat) ∧ w.grownBy w' v.ownBlock ∧ Moved w v v' ∧ (v' = .slice none 0 0 ↔ v = .slice none 0 0 ∧ n ≤ 0) := by
  obtain ⟨i0, hi, hz0, hz1, hz2⟩ := info_parts Ydlm.info5
  go_enter Ydlm.func37, Ydlm.ntmps37
  go_wp2
  go_loopw [0, 5] (fun u i wr => ∃ k : Nat, (k : Int) ≤ max n 0 ∧ i = .int .i64 k ∧ Buf wr B u (l ++ spaces k) ∧ w.grownBy wr v.ownBlock ∧ Moved w v u ∧ (u = .slice none 0 0 ↔ v = .slice none 0 0 ∧ k = 0)) (fun _ i _ => (n - intOf i).toNat)
  case atStart => exact ⟨0, by omega, rfl, by simpa [spaces] using hb, grownBy_refl _ _, Moved.refl _ _, by simp⟩
  case round =>
    obtain ⟨k, hk, rfl, hu, hg, hm, hnil⟩ := hrel
    by_cases hlt : (k : Int) < n
    · have hBr : B ≤ wr.heap.size := Nat.le_trans hB hg.size
      have hlen : (bytesV (l ++ spaces k)).length = l.length + k := by rw [bytesV_length, List.length_append, spaces_length]
      go_wp2_with (at_builtin; go_must (refine wpList_append1 rfl _ _ 28 rfl B 5 i0 (.int .u8 0) 1 Ydlm.underlying28 hi hz0 hz1 hz2 rfl u0 (bytesV (l ++ spaces k)) rfl wr (.int .u8 32) rfl hu hBr rfl (by rw [hlen]; omega) (by rw [hlen]; unfold maxLen; omega) ?_); intro v' w' hu' hg' hat' hne')
      have R1 : Buf w' B v' (l ++ spaces (k + 1)) := by rw [spaces_succ, ← List.append_assoc, Buf, bytesV_append]; exact hu'
      have R2 := grown_moved hg hm hg'
      have R3 := moved_trans hg.size hm (moved_of_at hat')
      clear hu' hg' hat' hu hg hm hlen
      go_wp2
      go_roundw
      case rel => exact ⟨k + 1, by omega, by go_num, R1, R2, R3, by simp [hne']⟩
      case measure => simp [intOf]; omega
    · go_wp2
      go_ret
      obtain rfl : n.toNat = k := by omega
      exact ⟨_, rfl, hu, hg, hm, hnil.trans (by simp)⟩
end Go.Proofs.Ymbrdl
