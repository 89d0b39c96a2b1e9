import Derived.Test.YmbrdjRows
import Derived.Test.YmbrdjKit2
import Derived.WalkKit
import Derived.WalkSpells
import Derived.WalkLawsBesides
import Derived.Deep.DeepMust
set_option linter.unusedSimpArgs false
set_option linter.unusedVariables false
namespace Go.Proofs.Ymbrdj
open Go.RowKit

theorem Ydjm.info9 : (Ydjm.prog.info? 9).map (fun i => (i.zero, i.size, i.bytes)) = some (some (.string ByteArray.empty), 1, 16) := by kernel_rfl

theorem flat_succ {α : Type} {L : List (List α)} {k : Nat} {ss : List α} (h : L[k]? = some ss) : (L.take (k + 1)).flatten = (L.take k).flatten ++ ss := by
  rw [List.take_add_one, h]; simp
theorem flat_len {α : Type} (L : List (List α)) (M : Nat) (h : ∀ ss ∈ L, ss.length ≤ M) : L.flatten.length ≤ L.length * M := by
  induction L with
  | nil => simp
  | cons s t ih =>
    have h1 := h s (by simp)
    have h2 := ih (fun ss hs => h ss (by simp [hs]))
    rw [List.flatten_cons, List.length_append, List.length_cons, Nat.add_mul]; omega

set_option maxHeartbeats 800000 in
theorem unwrap_any (a : Option Addr) (len cap : Nat) (L : List (List ByteArray)) (w : World) (hs : Strss w a len cap L) (hl : len ≤ 4096) (hM : ∀ ss ∈ L, ss.length ≤ 4096) :
    Calls Ydjm.prog 15 #[.slice a len cap] w fun e w' => ∃ v, e = .returned v ∧ Own w' w.heap.size 9 v (L.flatten.map Value.string) ∧ Below w.heap.size w w' ∧ (v = .slice none 0 0 ↔ L.flatten = []) := by
  obtain ⟨i0, hi, hz0, hz1, hz2⟩ := info_parts Ydjm.info9
  have HM := hide hM
  have HL := hide hs.hlen
  clear hM
  have hmx := hs.max
  unfold maxLen at hmx
  go_enter Ydjm.func15, Ydjm.ntmps15
  go_wp2
  go_loopw [3, 8] (fun v i wr => ∃ k : Nat, k ≤ len ∧ i = .int .i64 k ∧ Own wr w.heap.size 9 v ((L.take k).flatten.map Value.string) ∧ Below w.heap.size w wr ∧ (v = .slice none 0 0 ↔ (L.take k).flatten = [])) (fun _ i _ => len - (intOf i).toNat)
  case atStart => exact ⟨0, Nat.zero_le _, rfl, Own.nil _ _ _, Below.refl _ _, by simp⟩
  case round =>
    obtain ⟨k, hk, rfl, hu, hb, hn⟩ := hrel
    by_cases hlt : k < len
    · obtain ⟨b, off, a', len', cap', ss, rfl, hss, hbl, hc, hS⟩ := hs.nth k hlt
      have hc' : wr.cell? ⟨b, off + k, none⟩ = some (.slice a' len' cap') := (hb.cell (p := ⟨b, off + k, none⟩) hbl).trans hc
      have hS' := hS.below hb
      have HF := hide (flat_succ hss)
      have hl1 : ss.length ≤ 4096 := unhide HM ss (List.mem_of_getElem? hss)
      have hl2 : ((L.take k).flatten.map Value.string).length ≤ 4096 * 4096 := by
        rw [List.length_map]
        refine Nat.le_trans (flat_len _ 4096 (fun ss h => unhide HM ss (List.mem_of_mem_take h))) ?_
        rw [List.length_take]
        exact Nat.mul_le_mul (by omega) (Nat.le_refl _)
      have hl3 := hS.hlen
      have HN := hide hn
      have HSL := hide hS'.hlen
      clear hss hc hS hn
      have hBr := hb.size
      go_wp2_with (at_builtin; go_must (refine wpList_append_sl rfl _ _ 23 rfl w.heap.size 9 i0 (.string ByteArray.empty) 16 Ydjm.underlying23 hi hz0 hz1 hz2 rfl u3 _ rfl wr hu hBr a' len' cap' (ss.map Value.string) rfl (by rw [List.length_map]; exact unhide HSL) hS'.le hS'.none_cap hS'.cells (strs_one _) (by omega) (by unfold maxLen; omega) ?_); intro v' w' hu' hg' hn' hm')
      have R1 : Own w' w.heap.size 9 v' ((L.take (k + 1)).flatten.map Value.string) := by rw [unhide HF, List.map_append]; exact hu'
      have R2 := Below.of_grown hb hu hBr hg'
      have R3 : Hid (v' = .slice none 0 0 ↔ (L.take (k + 1)).flatten = []) := by
        show _ ↔ _
        rw [hn', unhide HN, unhide HF, List.append_eq_nil_iff, ← unhide HSL, List.length_eq_zero_iff]
      clear hu' hg' hn' hm' hu hb hS' hl2 hl3
      go_wp2
      go_roundw
      case rel => exact ⟨k + 1, by omega, by go_num, R1, R2, unhide R3⟩
      case measure => simp [intOf]; omega
    · have hl' := unhide HL
      rw [List.take_of_length_le (by omega)] at hu hn
      have HN := hide hn
      clear hn hl'
      go_wp2
      go_ret
      exact ⟨_, rfl, hu, hb, unhide HN⟩
end Go.Proofs.Ymbrdj
