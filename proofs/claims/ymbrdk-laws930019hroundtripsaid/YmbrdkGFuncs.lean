import Derived.Test.YmbrdkSplitLines
import Derived.Test.YmbrdkRoomP
import Derived.Deep.QuietTactic
import Derived.BigQuiet
set_option linter.unusedSimpArgs false
set_option linter.unusedVariables false
namespace Go.Proofs.Ymbrdk
open Go.RowKit

theorem info5g : (Ydkm.prog.info? 5).map (fun i => (i.zero, i.size, i.bytes)) = some (some (.int .u8 0), 1, 1) := by kernel_rfl

def GSm (ss : List ByteArray) : Prop := ss.length ≤ 1024 ∧ szs ss ≤ 65536

set_option maxHeartbeats 800000 in
theorem gbig_any (a : Option Addr) (len cap : Nat) (ss : List ByteArray) (w : World) (hs : Strs w a len cap ss) :
    Calls Ydkm.prog 21 #[.slice a len cap] w fun e w' => ((¬ GSm ss ∧ e = .returned (.bool true)) ∨ (GSm ss ∧ e = .returned (.bool false))) ∧ w' = w := by
  have hle := hs.le
  have hmx := hs.max
  have hl := hide hs.hlen
  unfold maxLen at hmx
  by_cases hbig : 1024 < len
  · have R : Hid (¬ GSm ss) := fun h => by have := h.1; have := unhide hl; omega
    go_enter Ydkm.func21, Ydkm.ntmps21
    go_wp2
    go_ret
    exact ⟨.inl ⟨unhide R, rfl⟩, rfl⟩
  go_enter Ydkm.func21, Ydkm.ntmps21
  go_wp2
  go_loop [3, 4] (fun r i => ∃ (k m : Nat), k ≤ len ∧ i = .int .i64 k ∧ r = .int .i64 m ∧ m ≤ 65536 ∧ Hid (m + szs (ss.take k) = 65536)) (fun _ i => len - (intOf i).toNat)
  case atStart => exact ⟨0, 65536, Nat.zero_le _, rfl, rfl, Nat.le_refl _, by simp [szs, Hid]⟩
  case round =>
    obtain ⟨k, m, hk, rfl, rfl, hm, HM⟩ := hrel
    by_cases hlt : k < len
    · obtain ⟨b, off, s, rfl, hss, hsz, hb, hc⟩ := hs.nth k hlt
      have HJ := hide (szs_take_succ hss)
      clear hss
      unfold maxLen at hsz
      by_cases hsr : m < s.size
      · have R : Hid (¬ GSm ss) := fun h => by have h1 := h.2; have h2 := szs_take_le ss (k + 1); have h3 := unhide HJ; have h4 := unhide HM; omega
        go_wp2
        go_ret
        exact ⟨.inl ⟨unhide R, rfl⟩, rfl⟩
      · go_wp2
        go_round
        case rel => exact ⟨k + 1, m - s.size, by omega, by go_num, by congr 1; omega, by omega, by have h3 := unhide HJ; have h4 := unhide HM; show _ = _; omega⟩
        case measure => simp [intOf]; omega
    · have R : Hid (GSm ss) := by
        have h1 := unhide HM
        have h2 := unhide hl
        rw [List.take_of_length_le (by omega)] at h1
        exact ⟨by omega, by omega⟩
      go_wp2
      go_ret
      exact ⟨.inr ⟨unhide R, rfl⟩, rfl⟩

/-- The text of the first k parts. -/
def gtPre (ps : List ByteArray) (ended : Bool) : Nat → List UInt8
  | 0 => []
  | k + 1 => gtPre ps ended k ++ (match ps[k]? with
    | some s => s.data.toList ++ (if ended || decide (k + 1 < ps.length) then [10] else [])
    | .none => [])
theorem gtPre_succ {ps : List ByteArray} {ended : Bool} {k : Nat} {s : ByteArray} (h : ps[k]? = some s) : gtPre ps ended (k + 1) = gtPre ps ended k ++ s.data.toList ++ (if ended || decide (k + 1 < ps.length) then [10] else []) := by
  rw [gtPre, h]; simp
theorem gtPre_length (ps : List ByteArray) (ended : Bool) : ∀ k, (gtPre ps ended k).length ≤ szs (ps.take k) + k
  | 0 => by simp [gtPre]
  | k + 1 => by
    have ih := gtPre_length ps ended k
    cases h : ps[k]? with
    | none =>
      rw [gtPre, h]
      have h1 : ps.length ≤ k := by simpa using h
      rw [List.take_of_length_le (by omega)] at ih ⊢
      simp; omega
    | some s =>
      rw [gtPre_succ h, szs_take_succ h, List.length_append, List.length_append]
      have hs : s.data.toList.length = s.size := by simp
      split <;> simp <;> omega

set_option maxHeartbeats 1600000 in
theorem gtext_any (a : Option Addr) (len cap : Nat) (ss : List ByteArray) (ended : Bool) (w : World) (hs : Strs w a len cap ss) (hbd : szs ss + len ≤ 4294967296) :
    Calls Ydkm.prog 22 #[.slice a len cap, .bool ended] w fun e w' => ∃ r : ByteArray, e = .returned (.string r) ∧ Hid (r.data.toList = gtPre ss ended len) ∧ Below w.heap.size w w' := by
  obtain ⟨i0, hi, hz0, hz1, hz2⟩ := info_parts info5g
  have hle := hs.le
  have hmx := hs.max
  have HL := hide hs.hlen
  unfold maxLen at hmx
  go_enter Ydkm.func22, Ydkm.ntmps22
  go_wp2
  go_loopw [5, 6] (fun v i wr => ∃ k : Nat, k ≤ len ∧ i = .int .i64 k ∧ Buf wr w.heap.size v (gtPre ss ended k) ∧ Below w.heap.size w wr) (fun _ i _ => len - (intOf i).toNat)
  case atStart => exact ⟨0, Nat.zero_le _, rfl, Buf.nil _ _, Below.refl _ _⟩
  case round =>
    obtain ⟨k, hk, rfl, hu, hb⟩ := hrel
    by_cases hlt : k < len
    · obtain ⟨b, off, s, rfl, hss, hsz, hbl, hc⟩ := hs.nth k hlt
      have hc' : wr.cell? ⟨b, off + k, none⟩ = some (.string s) := (hb.cell (p := ⟨b, off + k, none⟩) hbl).trans hc
      have hF := gtPre_succ (ended := ended) hss
      have hl1 : (bytesV (gtPre ss ended k)).length + s.size + 1 ≤ 4294967297 := by
        have h1 := szs_take_le ss (k + 1)
        rw [szs_take_succ hss] at h1
        have h2 := gtPre_length ss ended k
        rw [bytesV_length]
        omega
      clear hss hc
      have hBr := hb.size
      have hown : Own wr w.heap.size 5 u5 (bytesV (gtPre ss ended k)) := hu
      have hl2 : (bytesV (gtPre ss ended k) ++ bytesV s.data.toList).length + 1 ≤ 4294967297 := by
        rw [List.length_append, bytesV_length s.data.toList, show s.data.toList.length = s.size by simp]; omega
      have hBr2 : ∀ w2 : World, wr.grownBy w2 u5.ownBlock → w.heap.size ≤ w2.heap.size := fun w2 h => Nat.le_trans hBr h.size
      by_cases hend : ended = true ∨ k + 1 < len
      · have hcond : (ended || decide (k + 1 < ss.length)) = true := by
          rw [unhide HL]; rcases hend with h | h <;> simp [h]
        rw [hcond, if_pos rfl] at hF
        have HF := hide hF
        clear hF hcond
        have H : Hid (ended = true ∨ k + 1 < len) := hend
        clear hend
        cases ended
        · have hk1 : (k : Int) < (len : Int) - 1 := by have := unhide H; simp at this; omega
          go_wp2_with (first | (at_builtin; refine wpList_append_str rfl (.tmp 13) (.tmp 17) 41 9 rfl w.heap.size 5 i0 Ydkm.underlying41 Ydkm.underlying9 hi hz0 hz1 hz2 u5 _ rfl wr hown hBr s rfl (by omega) ?_; intro v2 w2 hu2 hg2 hn2) | (at_builtin; refine wpList_append1 rfl (.tmp 27) (.tmp 28) 41 rfl w.heap.size 5 i0 (.int .u8 0) 1 Ydkm.underlying41 hi hz0 hz1 hz2 rfl v2 (bytesV (gtPre ss false k) ++ bytesV s.data.toList) rfl w2 (.int .u8 10) rfl hu2 (hBr2 w2 hg2) rfl (by omega) (by unfold maxLen; omega) ?_; intro v3 w3 hu3 hg3 hat3 hne3))
          have hb2 := Below.of_grown hb hown hBr hg2
          have R1 : Buf w3 w.heap.size v3 (gtPre ss false (k + 1)) := by rw [unhide HF, Buf, bytesV_append, bytesV_append]; exact hu3
          have R2 := Below.of_grown hb2 hu2 (hBr2 w2 hg2) hg3
          clear hu3 hg3 hat3 hne3 hu2 hb2 hb hl2 hn2 hg2 hown hu hl1 hBr2
          go_wp2
          go_roundw
          case rel => exact ⟨k + 1, by omega, by go_num, R1, R2⟩
          case measure => simp [intOf]; omega
        · go_wp2_with (first | (at_builtin; refine wpList_append_str rfl (.tmp 13) (.tmp 17) 41 9 rfl w.heap.size 5 i0 Ydkm.underlying41 Ydkm.underlying9 hi hz0 hz1 hz2 u5 _ rfl wr hown hBr s rfl (by omega) ?_; intro v2 w2 hu2 hg2 hn2) | (at_builtin; refine wpList_append1 rfl (.tmp 27) (.tmp 28) 41 rfl w.heap.size 5 i0 (.int .u8 0) 1 Ydkm.underlying41 hi hz0 hz1 hz2 rfl v2 (bytesV (gtPre ss true k) ++ bytesV s.data.toList) rfl w2 (.int .u8 10) rfl hu2 (hBr2 w2 hg2) rfl (by omega) (by unfold maxLen; omega) ?_; intro v3 w3 hu3 hg3 hat3 hne3))
          have hb2 := Below.of_grown hb hown hBr hg2
          have R1 : Buf w3 w.heap.size v3 (gtPre ss true (k + 1)) := by rw [unhide HF, Buf, bytesV_append, bytesV_append]; exact hu3
          have R2 := Below.of_grown hb2 hu2 (hBr2 w2 hg2) hg3
          clear hu3 hg3 hat3 hne3 hu2 hb2 hb hl2 hn2 hg2 hown hu hl1 hBr2
          go_wp2
          go_roundw
          case rel => exact ⟨k + 1, by omega, by go_num, R1, R2⟩
          case measure => simp [intOf]; omega
      · obtain rfl : ended = false := by cases ended <;> simp_all
        have hk1 : (len : Int) - 1 ≤ (k : Int) := by simp at hend; omega
        have hcond : (false || decide (k + 1 < ss.length)) = false := by
          rw [unhide HL]; simp; omega
        rw [hcond, if_neg (by simp), List.append_nil] at hF
        have HF := hide hF
        clear hF hcond hend
        go_wp2_with (at_builtin; refine wpList_append_str rfl (.tmp 13) (.tmp 17) 41 9 rfl w.heap.size 5 i0 Ydkm.underlying41 Ydkm.underlying9 hi hz0 hz1 hz2 u5 _ rfl wr hown hBr s rfl (by omega) ?_; intro v2 w2 hu2 hg2 hn2)
        have R2 := Below.of_grown hb hown hBr hg2
        have R1 : Buf w2 w.heap.size v2 (gtPre ss false (k + 1)) := by rw [unhide HF, Buf, bytesV_append]; exact hu2
        clear hu2 hb hl2 hn2 hg2 hown hu hl1 hBr2
        go_wp2
        go_roundw
        case rel => exact ⟨k + 1, by omega, by go_num, R1, R2⟩
        case measure => simp [intOf]; omega
    · obtain rfl : k = len := by omega
      have hcv := run_string_of_buf (P := Ydkm.prog) wr 41 9 Ydkm.underlying41 Ydkm.underlying5 Ydkm.underlying9 hu
      clear hu
      go_wp2
      go_ret
      exact ⟨_, rfl, rfl, hb⟩
end Go.Proofs.Ymbrdk
