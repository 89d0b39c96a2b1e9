import Derived.Test.YmbrdlRows
import Derived.Test.YmbrdlKit2
import Derived.Test.YmbrdlJoinP
import Derived.WalkKit
import Derived.WalkSpells
import Derived.WalkLawsBesides
import Derived.Deep.DeepMust
set_option linter.unusedSimpArgs false
set_option linter.unusedVariables false
namespace Go.Proofs.Ymbrdl
open Go.RowKit

theorem info5w : (Ydlm.prog.info? 5).map (fun i => (i.zero, i.size, i.bytes)) = some (some (.int .u8 0), 1, 1) := by kernel_rfl

set_option maxHeartbeats 1600000 in
theorem joinWords_any (a : Option Addr) (len cap : Nat) (ss : List ByteArray) (w : World) (hs : Strs w a len cap ss) (hbd : szs ss + len ≤ 4294967296) :
    Calls Ydlm.prog 33 #[.slice a len cap] w fun e w' => ∃ r : ByteArray, e = .returned (.string r) ∧ Hid (r.data.toList = wordsL ss) ∧ Below w.heap.size w w' := by
  obtain ⟨i0, hi, hz0, hz1, hz2⟩ := info_parts info5w
  have hle := hs.le
  have hmx := hs.max
  have HL := hide hs.hlen
  unfold maxLen at hmx
  go_enter Ydlm.func33, Ydlm.ntmps33
  go_wp2
  go_loopw [3, 8] (fun v i wr => ∃ k : Nat, k ≤ len ∧ i = .int .i64 k ∧ Buf wr w.heap.size v (wordsL (ss.take k)) ∧ Below w.heap.size w wr) (fun _ i _ => len - (intOf i).toNat)
  case atStart => exact ⟨0, Nat.zero_le _, rfl, Buf.nil _ _, Below.refl _ _⟩
  case round =>
    obtain ⟨k, hk, rfl, hu, hb⟩ := hrel
    by_cases hlt : k < len
    · obtain ⟨b, off, s, rfl, hss, hsz, hbl, hc⟩ := hs.nth k hlt
      have hc' : wr.cell? ⟨b, off + k, none⟩ = some (.string s) := (hb.cell (p := ⟨b, off + k, none⟩) hbl).trans hc
      have hF := wordsL_take_succ hss
      have hl1 : (bytesV (wordsL (ss.take k))).length + 1 + s.size ≤ 4294967297 := by
        have h1 := szs_take_le ss (k + 1)
        rw [szs_take_succ hss] at h1
        rw [bytesV_length, wordsL_length]
        unfold jlen
        rw [List.length_take]
        omega
      clear hss hc
      have hBr := hb.size
      have hown : Own wr w.heap.size 5 u3 (bytesV (wordsL (ss.take k))) := hu
      by_cases hk0 : k < 1
      · rw [if_pos (by omega), List.nil_append] at hF
        have HF := hide hF
        clear hF
        go_wp2_with (at_builtin; refine wpList_append_str rfl (.tmp 18) (.tmp 19) 28 9 rfl w.heap.size 5 i0 Ydlm.underlying28 Ydlm.underlying9 hi hz0 hz1 hz2 u3 _ rfl wr hown hBr s rfl (by omega) ?_; intro v2 w2 hu2 hg2 hn2)
        have R2 := Below.of_grown hb hown hBr hg2
        have R1 : Buf w2 w.heap.size v2 (wordsL (ss.take (k + 1))) := by rw [unhide HF, Buf, bytesV_append]; exact hu2
        clear hu2 hb hn2 hg2 hown hu hl1
        go_wp2
        go_roundw
        case rel => exact ⟨k + 1, by omega, by go_num, R1, R2⟩
        case measure => simp [intOf]; omega
      · rw [if_neg (by omega)] at hF
        have HF := hide hF
        clear hF
        have hl2 : (bytesV (wordsL (ss.take k)) ++ [Value.int .u8 32]).length + s.size ≤ 4294967297 := by rw [List.length_append]; simp; omega
        have hBr2 : ∀ w2 : World, wr.grownBy w2 u3.ownBlock → w.heap.size ≤ w2.heap.size := fun w2 h => Nat.le_trans hBr h.size
        go_wp2_with (first | (at_builtin; refine wpList_append1 rfl (.tmp 15) (.tmp 16) 28 rfl w.heap.size 5 i0 (.int .u8 0) 1 Ydlm.underlying28 hi hz0 hz1 hz2 rfl u3 _ rfl wr (.int .u8 32) rfl hown hBr rfl (by omega) (by unfold maxLen; omega) ?_; intro v2 w2 hu2 hg2 hat2 hne2) | (at_builtin; refine wpList_append_str rfl (.tmp 18) (.tmp 19) 28 9 rfl w.heap.size 5 i0 Ydlm.underlying28 Ydlm.underlying9 hi hz0 hz1 hz2 v2 (bytesV (wordsL (ss.take k)) ++ [Value.int .u8 32]) rfl w2 hu2 (hBr2 w2 hg2) s rfl (by omega) ?_; intro v3 w3 hu3 hg3 hn3))
        have hb2 := Below.of_grown hb hown hBr hg2
        have R2 := Below.of_grown hb2 hu2 (hBr2 w2 hg2) hg3
        have R1 : Buf w3 w.heap.size v3 (wordsL (ss.take (k + 1))) := by
          rw [unhide HF, Buf, bytesV_append, bytesV_append, ← List.append_assoc]; exact hu3
        clear hu3 hg3 hn3 hat2 hne2 hu2 hb2 hb hl2 hg2 hown hu hl1 hBr2
        go_wp2
        go_roundw
        case rel => exact ⟨k + 1, by omega, by go_num, R1, R2⟩
        case measure => simp [intOf]; omega
    · rw [List.take_of_length_le (by have := unhide HL; omega)] at hu
      have hcv := run_string_of_buf (P := Ydlm.prog) wr 28 9 Ydlm.underlying28 Ydlm.underlying5 Ydlm.underlying9 hu
      clear hu
      go_wp2
      go_ret
      exact ⟨_, rfl, rfl, hb⟩
end Go.Proofs.Ymbrdl
