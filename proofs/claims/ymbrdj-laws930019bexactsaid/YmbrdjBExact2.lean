import Derived.Test.YmbrdjBExact
set_option linter.unusedSimpArgs false
set_option linter.unusedVariables false
namespace Go.Proofs.Ymbrdj
open Go.RowKit

theorem jus_few {ss : List ByteArray} {room : Nat} (hn : ss.length < 2) : jusL ss (jlen ss + room) = wordsL ss ++ spaces room := by
  unfold jusL
  rw [if_pos hn]
  unfold alignL
  rw [wordsL_length, Nat.add_sub_cancel_left]
  simp [befN, spaces]

set_option maxHeartbeats 6000000 in
theorem bExact_few (a0 : Option Addr) (len0 cap0 : Nat) (z0 : List ByteArray) (a1 : Int) (w : World) (w0 : Strs w a0 len0 cap0 z0) (hc1 : 0 ≤ a1) (hc2 : a1 ≤ 65535) (hlen : len0 < 2) :
    Calls Ydjm.prog 6 #[.slice a0 len0 cap0, .int .u16 a1] w fun e w' => e = .returned (.bool true) ∧ Below w.heap.size w w' := by
  obtain ⟨i0, hi, hz0, hz1, hz2⟩ := info_parts info5w
  have hle := w0.le
  have hmx := w0.max
  unfold maxLen at hmx
  have hl := hide w0.hlen
  obtain ⟨q, hq, hq3⟩ : ∃ q : Nat, a1 % 300 = (q : Int) ∧ q < 300 := ⟨(a1 % 300).toNat, by omega, by omega⟩
  go_enter Ydjm.func6, Ydjm.ntmps6
  go_wp2_with fail
  refine (bjoined_any _ _ _ z0 _ w0).mono ?_
  rintro e w' ⟨hx, hw⟩
  obtain rfl := hw.symm
  rcases hx with ⟨hn, rfl⟩ | ⟨hsm, rfl⟩
  · go_wp2
    go_ret
    exact ⟨rfl, Below.refl _ _⟩
  obtain ⟨hs1, hs2⟩ := hsm
  have hs3 : len0 ≤ 1024 := by have := unhide hl; omega
  have hjb : jlen z0 ≤ 33791 := by unfold jlen; omega
  go_wp2_with fail
  refine (justify_yes _ _ _ z0 _ _ w0 (by omega) (by omega) (by omega)).mono ?_
  rintro e x1 ⟨r, rfl, HR, HZ, hb1⟩
  have hE : r.data.toList = wordsL z0 ++ spaces q := by
    have h1 := unhide HR
    rw [show ((jlen z0 : Int) + (q : Int)).toNat = jlen z0 + q by omega, jus_few (by have := unhide hl; omega)] at h1
    exact h1
  have HE := hide hE
  have hS1 := w0.below hb1
  clear hE HR HZ
  go_wp2
  go_loopw [11, 12] (fun v i wr => ∃ k : Nat, k ≤ len0 ∧ i = .int .i64 k ∧ Buf wr x1.heap.size v (wordsL (z0.take k)) ∧ Below x1.heap.size x1 wr) (fun _ i _ => len0 - (intOf i).toNat)
  case atStart => exact ⟨0, Nat.zero_le _, rfl, Buf.nil _ _, Below.refl _ _⟩
  case round =>
    obtain ⟨k, hk, rfl, hu, hb⟩ := hrel
    by_cases hlt : k < len0
    · obtain ⟨b, off, s, rfl, hss, hsz, hbl, hc⟩ := hS1.nth k hlt
      have hF := wordsL_take_succ hss
      have hs9 : s.size ≤ 32768 := by
        have h1 := szs_take_succ hss
        have h2 := szs_take_le z0 (k + 1)
        omega
      rw [if_pos (by omega), List.nil_append] at hF
      have hl0 : (bytesV (wordsL (z0.take k))).length ≤ 33791 := by
        rw [bytesV_length, wordsL_length]
        exact Nat.le_trans (jlen_take_le z0 k) hjb
      have HF := hide hF
      have hc' : wr.cell? ⟨b, off + k, none⟩ = some (.string s) := (hb.cell (p := ⟨b, off + k, none⟩) hbl).trans hc
      have hBr := hb.size
      have hown : Own wr x1.heap.size 5 u11 (bytesV (wordsL (z0.take k))) := hu
      clear hF hc hss
      go_wp2_with (at_builtin; go_must (refine wpList_append_str rfl (.tmp 63) (.tmp 67) 26 9 rfl x1.heap.size 5 i0 Ydjm.underlying26 Ydjm.underlying9 hi hz0 hz1 hz2 u11 _ rfl wr hown hBr s rfl (by omega) ?_); intro v2 w2 hu2 hg2 hn2)
      have R2 := Below.of_grown hb hown hBr hg2
      have R1 : Buf w2 x1.heap.size v2 (wordsL (z0.take (k + 1))) := by rw [unhide HF, Buf, bytesV_append]; exact hu2
      clear hu2 hb hn2 hg2 hown hu
      go_wp2
      go_roundw
      case rel => exact ⟨k + 1, by omega, by go_num, R1, R2⟩
      case measure => simp [intOf]; omega
    · rw [List.take_of_length_le (by have := unhide hl; omega)] at hu
      have hl0 : (bytesV (wordsL z0)).length ≤ 33791 := by rw [bytesV_length, wordsL_length]; exact hjb
      rw [bytesV_length] at hl0
      have hd : decide ((len0 : Int) - 1 < 1) = true := by simp; omega
      go_wp2
      go_loopw [11, 15] (fun v j wr => ∃ j' : Nat, j' ≤ q ∧ j = .int .i64 j' ∧ Buf wr x1.heap.size v (wordsL z0 ++ spaces j') ∧ Below x1.heap.size x1 wr) (fun _ j _ => q - (intOf j).toNat)
      case atStart => exact ⟨0, Nat.zero_le _, rfl, by simpa [spaces] using hu, hb⟩
      case round =>
        obtain ⟨j', hj', rfl, hu2, hbx⟩ := hrel
        have hBr := hbx.size
        by_cases hltj : j' < q
        · have hlj : (bytesV (wordsL z0 ++ spaces j')).length ≤ 65536 := by rw [bytesV_length, List.length_append, spaces_length]; omega
          go_wp2_with (at_builtin; go_must (refine wpList_append1 rfl (.tmp 76) (.tmp 77) 26 rfl x1.heap.size 5 i0 (.int .u8 0) 1 Ydjm.underlying26 hi hz0 hz1 hz2 rfl u11 _ rfl wr (.int .u8 32) rfl hu2 hBr rfl (by omega) (by unfold maxLen; omega) ?_); intro v3 w3 hu3 hg3 hat3 hne3)
          have R2 := Below.of_grown hbx hu2 hBr hg3
          have R1 : Buf w3 x1.heap.size v3 (wordsL z0 ++ spaces (j' + 1)) := by rw [spaces_succ, ← List.append_assoc, Buf, bytesV_append]; exact hu3
          clear hu3 hg3 hat3 hne3 hu2 hbx
          go_wp2
          go_roundw
          case rel => exact ⟨j' + 1, by omega, by go_num, R1, R2⟩
          case measure => simp [intOf]; omega
        · obtain rfl : j' = q := by omega
          have hbx2 := hb1.trans (hbx.mono hb1.size)
          rw [← unhide HE] at hu2
          have hcv := run_string_of_buf (P := Ydjm.prog) wr 26 9 Ydjm.underlying26 Ydjm.underlying5 Ydjm.underlying9 hu2
          have he : (⟨r.data.toList.toArray⟩ : ByteArray) = r := by apply WideShapes.bytes_inj; rfl
          rw [he] at hcv
          clear hu2 hbx he
          go_wp2
          go_ret
          exact ⟨ret_bool (by simp), hbx2⟩

theorem bExact_walk (a0 : Option Addr) (len0 cap0 : Nat) (z0 : List ByteArray) (a1 : Int) (w : World) (w0 : Strs w a0 len0 cap0 z0) (w1 : (Lit.int .u16 a1).wf = true) :
    Calls Ydjm.prog 6 #[.slice a0 len0 cap0, .int .u16 a1] w fun e w' => e = .returned (.bool true) ∧ Below w.heap.size w w' := by
  obtain ⟨h1, h2⟩ := bounds_u16 w1
  by_cases hlen : 2 ≤ len0
  · exact bExact_many a0 len0 cap0 z0 a1 w w0 h1 h2 hlen
  · exact bExact_few a0 len0 cap0 z0 a1 w w0 h1 h2 (by omega)
end Go.Proofs.Ymbrdj
