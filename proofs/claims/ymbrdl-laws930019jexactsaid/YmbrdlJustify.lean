import Derived.Test.YmbrdlJoinWords
import Derived.Test.YmbrdlJusP
import Derived.Test.YmbrdlRoom
set_option linter.unusedSimpArgs false
set_option linter.unusedVariables false
namespace Go.Proofs.Ymbrdl
open Go.RowKit

theorem jpre_bound {ss : List ByteArray} {g sh wd k W : Nat} (hk : k ≤ ss.length) (hW : (jpre ss g sh wd ss.length).length = W) : (jpre ss g sh wd k).length ≤ W := by
  rw [jpre_length _ _ _ _ _ (Nat.le_refl _), List.take_length] at hW
  rw [jpre_length _ _ _ _ _ hk]
  have h1 := szs_take_le ss k
  have h2 : min k g * (1 + sh) ≤ min ss.length g * (1 + sh) := Nat.mul_le_mul_right _ (by omega)
  omega

theorem spaces_one : spaces 1 = [32] := rfl
theorem spaces_zero : spaces 0 = [] := rfl

set_option maxHeartbeats 3000000 in
theorem justify_many (a : Option Addr) (len cap : Nat) (ss : List ByteArray) (wd : Nat) (w : World) (hs : Strs w a len cap ss) (hlen : 2 ≤ len) (hj : jlen ss ≤ wd) (hw : wd ≤ 65536) :
    Calls Ydlm.prog 34 #[.slice a len cap, .int .i64 wd] w fun e w' => ∃ r : ByteArray, e = .returned (.tuple #[.string r, .bool true]) ∧ Hid (r.data.toList = jusL ss wd) ∧ Below w.heap.size w w' := by
  obtain ⟨i0, hi, hz0, hz1, hz2⟩ := info_parts info5w
  have hle := hs.le
  have hmx := hs.max
  have hsl := hs.hlen
  have HL := hide hs.hlen
  unfold maxLen at hmx
  obtain ⟨G, hG⟩ : ∃ G, G = len - 1 := ⟨_, rfl⟩
  obtain ⟨sh, hsh⟩ : ∃ sh, sh = (wd - jlen ss) / G := ⟨_, rfl⟩
  obtain ⟨wr', hwr'⟩ : ∃ x, x = (wd - jlen ss) % G := ⟨_, rfl⟩
  have hjus : jusL ss wd = jpre ss G sh wr' len := by
    unfold jusL
    rw [if_neg (by omega), hsl, ← hG, ← hsh, ← hwr']
  have hlw := jusL_length hj
  rw [hjus] at hlw
  have hwG : wr' < G := by rw [hwr']; exact Nat.mod_lt _ (by omega)
  have hB : ∀ k, k ≤ len → (jpre ss G sh wr' k).length ≤ 65536 := fun k hk => Nat.le_trans (jpre_bound (by omega) (by rw [hsl]; exact hlw)) hw
  have hsh2 : sh ≤ 65536 := by rw [hsh]; exact Nat.le_trans (Nat.div_le_self _ _) (by omega)
  have hq1 : ((wd : Int) - (jlen ss : Int)) / ((len : Int) - 1) = (sh : Int) := by
    rw [hsh, hG, ← Int.natCast_sub hj, Int.natCast_ediv]; congr 1; omega
  have hq2 : ((wd : Int) - (jlen ss : Int)) % ((len : Int) - 1) = (wr' : Int) := by
    rw [hwr', hG, ← Int.natCast_sub hj, Int.natCast_emod]; congr 1; omega
  have hG1 : (len : Int) - 1 = (G : Int) := by omega
  rw [hG1] at hq1 hq2
  have HJ := hide hjus
  have HB := hide hB
  have hG2 : G + 1 = len := by omega
  have hjI : (jlen ss : Int) ≤ (wd : Int) := by omega
  have HG2 := hide hG2
  have hG3 : G < len := by omega
  have hG4 : len ≤ G + 1 := by omega
  have hG5 : 1 ≤ G := by omega
  clear hsl hG hsh hwr' hjus hlw hB hG2
  go_enter Ydlm.func34, Ydlm.ntmps34
  go_wp2_with fail
  refine (room_fits _ _ _ ss _ _ hs (by omega) hjI).mono ?_
  rintro e w' ⟨rfl, hw'⟩
  obtain rfl := hw'.symm
  go_wp2
  rw [hq1, hq2]
  clear hq1 hq2 hG1
  go_loopw [11, 46] (fun v i wr => ∃ k : Nat, k ≤ len ∧ i = .int .i64 k ∧ Buf wr w.heap.size v (jpre ss G sh wr' k) ∧ Below w.heap.size w wr) (fun _ i _ => len - (intOf i).toNat)
  case atStart => exact ⟨0, Nat.zero_le _, rfl, Buf.nil _ _, Below.refl _ _⟩
  case round =>
    obtain ⟨k, hk, rfl, hu, hb⟩ := hrel
    by_cases hlt : k < len
    · obtain ⟨b, off, s, rfl, hss, hsz, hbl, hc⟩ := hs.nth k hlt
      have hc' : wr.cell? ⟨b, off + k, none⟩ = some (.string s) := (hb.cell (p := ⟨b, off + k, none⟩) hbl).trans hc
      have hF := jpre_succ (g := G) (sh := sh) (wd := wr') hss
      have hl0 := unhide HB k hk
      have hl1 := unhide HB (k + 1) (by omega)
      rw [hF, List.length_append, List.length_append, List.length_append, show s.data.toList.length = s.size by simp] at hl1
      have hl2 : (bytesV (jpre ss G sh wr' k)).length + s.size ≤ 65536 := by rw [bytesV_length]; omega
      clear hss hc
      have hBr := hb.size
      have hown : Own wr w.heap.size 5 u11 (bytesV (jpre ss G sh wr' k)) := hu
      have HB1 : ∀ w2 v2, Own w2 w.heap.size 5 v2 (bytesV (jpre ss G sh wr' k) ++ Lib.strCells s) → Buf w2 w.heap.size v2 (jpre ss G sh wr' k ++ s.data.toList) := fun w2 v2 h => by
        rw [Buf, bytesV_append]; exact h
      by_cases hkG : k < G
      · rw [if_pos hkG] at hF
        by_cases hkw : k < wr'
        · rw [if_pos hkw, spaces_one] at hF
          have HF := hide hF
          clear hF
          go_wp2_with (at_builtin; go_must (refine wpList_append_str rfl (.tmp 51) (.tmp 52) 28 9 rfl w.heap.size 5 i0 Ydlm.underlying28 Ydlm.underlying9 hi hz0 hz1 hz2 u11 _ rfl wr hown hBr s rfl (by omega) ?_); intro v2 w2 hu2 hg2 hn2)
          have R2 := Below.of_grown hb hown hBr hg2
          have R1 := HB1 w2 v2 hu2
          have hBr2 := R2.size
          clear hu2 hb hn2 hg2 hown hu HB1
          go_wp2_with fail
          refine (appendSpaces_any w.heap.size _ _ _ _ R1 hBr2 (by omega) (by rw [List.length_append]; simp; omega)).mono ?_
          rintro e w3 ⟨v3, rfl, hu3, hg3, hm3, -⟩
          have R3 := Below.of_grown R2 R1 hBr2 hg3
          rw [show ((1 : Int) + (sh : Int)).toNat = 1 + sh by omega] at hu3
          have hBr3 := R3.size
          have hl4 : (bytesV (jpre ss G sh wr' k ++ s.data.toList ++ spaces (1 + sh))).length ≤ 131073 := by rw [bytesV_length, List.length_append, List.length_append, spaces_length]; simp; omega
          clear R1 R2 hg3 hm3 hl2
          go_wp2_with (at_builtin; go_must (refine wpList_append1 rfl (.tmp 64) (.tmp 65) 28 rfl w.heap.size 5 i0 (.int .u8 0) 1 Ydlm.underlying28 hi hz0 hz1 hz2 rfl v3 _ rfl w3 (.int .u8 32) rfl hu3 hBr3 rfl (by omega) (by unfold maxLen; omega) ?_); intro v4 w4 hu4 hg4 hat4 hne4)
          have R4 := Below.of_grown R3 hu3 hBr3 hg4
          have R5 : Buf w4 w.heap.size v4 (jpre ss G sh wr' (k + 1)) := by rw [unhide HF, Buf, bytesV_append]; exact hu4
          clear hu4 hg4 hat4 hne4 hu3 R3 hl4
          go_wp2
          go_roundw
          case rel => first | exact ⟨k + 1, by omega, by go_num, R5, R4⟩ | ((repeat apply Exists.intro); exact ⟨⟨k + 1, by omega, by go_num, R5, R4⟩, rfl⟩)
          case measure => simp [intOf]; omega
        · rw [if_neg hkw, spaces_zero, List.append_nil] at hF
          have HF := hide hF
          clear hF
          go_wp2_with (at_builtin; go_must (refine wpList_append_str rfl (.tmp 51) (.tmp 52) 28 9 rfl w.heap.size 5 i0 Ydlm.underlying28 Ydlm.underlying9 hi hz0 hz1 hz2 u11 _ rfl wr hown hBr s rfl (by omega) ?_); intro v2 w2 hu2 hg2 hn2)
          have R2 := Below.of_grown hb hown hBr hg2
          have R1 := HB1 w2 v2 hu2
          have hBr2 := R2.size
          clear hu2 hb hn2 hg2 hown hu HB1
          go_wp2_with fail
          refine (appendSpaces_any w.heap.size _ _ _ _ R1 hBr2 (by omega) (by rw [List.length_append]; simp; omega)).mono ?_
          rintro e w3 ⟨v3, rfl, hu3, hg3, hm3, -⟩
          have R3 := Below.of_grown R2 R1 hBr2 hg3
          rw [show ((1 : Int) + (sh : Int)).toNat = 1 + sh by omega] at hu3
          have R5 : Buf w3 w.heap.size v3 (jpre ss G sh wr' (k + 1)) := by rw [unhide HF]; exact hu3
          clear R1 R2 hg3 hm3 hl2 hu3
          go_wp2
          go_roundw
          case rel => first | exact ⟨k + 1, by omega, by go_num, R5, R3⟩ | ((repeat apply Exists.intro); exact ⟨⟨k + 1, by omega, by go_num, R5, R3⟩, rfl⟩)
          case measure => simp [intOf]; omega
      · rw [if_neg hkG, if_neg (by omega), spaces_zero, List.append_nil, List.append_nil] at hF
        have HF := hide hF
        have hkw : ¬ k < wr' := by omega
        clear hF
        go_wp2_with (at_builtin; go_must (refine wpList_append_str rfl (.tmp 51) (.tmp 52) 28 9 rfl w.heap.size 5 i0 Ydlm.underlying28 Ydlm.underlying9 hi hz0 hz1 hz2 u11 _ rfl wr hown hBr s rfl (by omega) ?_); intro v2 w2 hu2 hg2 hn2)
        have R2 := Below.of_grown hb hown hBr hg2
        have R5 : Buf w2 w.heap.size v2 (jpre ss G sh wr' (k + 1)) := by rw [unhide HF]; exact HB1 w2 v2 hu2
        clear hu2 hb hn2 hg2 hown hu HB1
        go_wp2
        go_roundw
        case rel => first | exact ⟨k + 1, by omega, by go_num, R5, R2⟩ | ((repeat apply Exists.intro); exact ⟨⟨k + 1, by omega, by go_num, R5, R2⟩, rfl⟩)
        case measure => simp [intOf]; omega
    · obtain rfl : k = len := by omega
      rw [← unhide HJ] at hu
      have hcv := run_string_of_buf (P := Ydlm.prog) wr 28 9 Ydlm.underlying28 Ydlm.underlying5 Ydlm.underlying9 hu
      clear hu
      go_wp2
      go_ret2
      exact ⟨_, rfl, rfl, hb⟩
end Go.Proofs.Ymbrdl
