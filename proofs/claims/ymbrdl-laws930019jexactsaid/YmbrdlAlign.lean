import Derived.Test.YmbrdlSpaces
set_option linter.unusedSimpArgs false
set_option linter.unusedVariables false
namespace Go.Proofs.Ymbrdl
open Go.RowKit

def befN (mode : Int) (pad : Nat) : Nat := if mode = 1 then pad else if mode = 2 then pad / 2 else 0
theorem befN_le (mode : Int) (pad : Nat) : befN mode pad ≤ pad := by unfold befN; split <;> (try split) <;> omega
/-- What Align makes. -/
def alignL (s : List UInt8) (width : Nat) (mode : Int) : List UInt8 :=
  spaces (befN mode (width - s.length)) ++ s ++ spaces (width - s.length - befN mode (width - s.length))
theorem alignL_length (s : List UInt8) (width : Nat) (mode : Int) (h : s.length ≤ width) : (alignL s width mode).length = width := by
  have := befN_le mode (width - s.length)
  unfold alignL
  rw [List.length_append, List.length_append, spaces_length, spaces_length]; omega

theorem data_len (s : ByteArray) : s.data.toList.length = s.size := by simp

theorem below_of_grown_nil {w w' : World} (h : w.grownBy w' (Value.slice none 0 0).ownBlock) : Below w.heap.size w w' :=
  ⟨h.os, h.tape, h.output, h.size, fun k hk => h.block k hk (by simp [Value.ownBlock])⟩

theorem align_eq (s : ByteArray) (wd : Nat) (mode : Int) (n1 n2 : Int) (h : s.size ≤ wd) (h0 : 0 ≤ n1) (h1 : n1.toNat = befN mode (wd - s.size)) (h2 : n2 = wd - s.size - n1) :
    [] ++ spaces n1.toNat ++ s.data.toList ++ spaces n2.toNat = alignL s.data.toList wd mode := by
  have hb := befN_le mode (wd - s.size)
  unfold alignL
  rw [data_len, List.nil_append, h1]
  congr 2
  omega
theorem ret_str {l l' : List UInt8} {p : Bool} (h : l = l') : Ending.returned (.tuple #[.string ⟨l.toArray⟩, .bool p]) = .returned (.tuple #[.string ⟨l'.toArray⟩, .bool p]) := by rw [h]


set_option maxHeartbeats 800000 in
theorem align_mode0 (s : ByteArray) (wd : Nat) (w : World) (h1 : s.size ≤ wd) (h2 : wd ≤ 65536) :
    Calls Ydlm.prog 28 #[.string s, .int .i64 wd, .int .i64 0] w fun e w' => e = .returned (.tuple #[.string ⟨(alignL s.data.toList wd 0).toArray⟩, .bool true]) ∧ Below w.heap.size w w' := by
  obtain ⟨i0, hi, hz0, hz1, hz2⟩ := info_parts Ydlm.info5
  have HE := hide (align_eq s wd 0 (0 : Int) ((wd : Int) - s.size) h1 (by omega) (by simp [befN]) (by omega))
  go_enter Ydlm.func28, Ydlm.ntmps28
  go_wp2_with fail
  refine (appendSpaces_any w.heap.size _ [] (0 : Int) _ (Buf.nil _ _) (Nat.le_refl _) (by omega) (by simp)).mono ?_
  rintro e w1 ⟨v1, rfl, hu1, hg1, hm1, -⟩
  have hB1 := hg1.size
  have hl1 : (bytesV ([] ++ spaces ((0 : Int)).toNat)).length ≤ 65536 := by rw [bytesV_length, List.nil_append, spaces_length]; omega
  go_wp2_with (at_builtin; go_must (refine wpList_append_str rfl _ _ 28 9 rfl w.heap.size 5 i0 Ydlm.underlying28 Ydlm.underlying9 hi hz0 hz1 hz2 v1 _ rfl w1 hu1 hB1 s rfl (by omega) ?_); intro v2 w2 hu2 hg2 hn2)
  clear hn2
  rw [strCells_bytesV, ← bytesV_append] at hu2
  have hb1 := below_of_grown_nil hg1
  have hb2 := Below.of_grown hb1 hu1 hB1 hg2
  clear hu1 hg1 hm1 hg2 hl1
  have hB2 := hb2.size
  go_wp2_with fail
  refine (appendSpaces_any w.heap.size _ _ ((wd : Int) - s.size) _ hu2 hB2 (by omega) ?_).mono ?_
  · rw [List.nil_append, List.length_append, spaces_length, data_len]; omega
  rintro e w3 ⟨v3, rfl, hu3, hg3, hm3, -⟩
  have hb3 := Below.of_grown hb2 hu2 hB2 hg3
  rw [unhide HE] at hu3
  have hcv := run_string_of_buf (P := Ydlm.prog) w3 28 9 Ydlm.underlying28 Ydlm.underlying5 Ydlm.underlying9 hu3
  clear hu2 hg3 hm3 hu3 hb2 hb1
  go_wp2
  go_ret2
  exact ⟨rfl, hb3⟩

set_option maxHeartbeats 800000 in
theorem align_mode1 (s : ByteArray) (wd : Nat) (w : World) (h1 : s.size ≤ wd) (h2 : wd ≤ 65536) :
    Calls Ydlm.prog 28 #[.string s, .int .i64 wd, .int .i64 1] w fun e w' => e = .returned (.tuple #[.string ⟨(alignL s.data.toList wd 1).toArray⟩, .bool true]) ∧ Below w.heap.size w w' := by
  obtain ⟨i0, hi, hz0, hz1, hz2⟩ := info_parts Ydlm.info5
  have HE := hide (align_eq s wd 1 ((wd : Int) - s.size) (0 : Int) h1 (by omega) (by simp [befN]; done) (by omega))
  go_enter Ydlm.func28, Ydlm.ntmps28
  go_wp2_with fail
  refine (appendSpaces_any w.heap.size _ [] ((wd : Int) - s.size) _ (Buf.nil _ _) (Nat.le_refl _) (by omega) (by simp)).mono ?_
  rintro e w1 ⟨v1, rfl, hu1, hg1, hm1, -⟩
  have hB1 := hg1.size
  have hl1 : (bytesV ([] ++ spaces (((wd : Int) - s.size)).toNat)).length ≤ 65536 := by rw [bytesV_length, List.nil_append, spaces_length]; omega
  go_wp2_with (at_builtin; go_must (refine wpList_append_str rfl _ _ 28 9 rfl w.heap.size 5 i0 Ydlm.underlying28 Ydlm.underlying9 hi hz0 hz1 hz2 v1 _ rfl w1 hu1 hB1 s rfl (by omega) ?_); intro v2 w2 hu2 hg2 hn2)
  clear hn2
  rw [strCells_bytesV, ← bytesV_append] at hu2
  have hb1 := below_of_grown_nil hg1
  have hb2 := Below.of_grown hb1 hu1 hB1 hg2
  clear hu1 hg1 hm1 hg2 hl1
  have hB2 := hb2.size
  go_wp2_with fail
  refine (appendSpaces_any w.heap.size _ _ (0 : Int) _ hu2 hB2 (by omega) ?_).mono ?_
  · rw [List.nil_append, List.length_append, spaces_length, data_len]; omega
  rintro e w3 ⟨v3, rfl, hu3, hg3, hm3, -⟩
  have hb3 := Below.of_grown hb2 hu2 hB2 hg3
  rw [unhide HE] at hu3
  have hcv := run_string_of_buf (P := Ydlm.prog) w3 28 9 Ydlm.underlying28 Ydlm.underlying5 Ydlm.underlying9 hu3
  clear hu2 hg3 hm3 hu3 hb2 hb1
  go_wp2
  go_ret2
  exact ⟨rfl, hb3⟩

set_option maxHeartbeats 800000 in
theorem align_mode2 (s : ByteArray) (wd : Nat) (w : World) (h1 : s.size ≤ wd) (h2 : wd ≤ 65536) :
    Calls Ydlm.prog 28 #[.string s, .int .i64 wd, .int .i64 2] w fun e w' => e = .returned (.tuple #[.string ⟨(alignL s.data.toList wd 2).toArray⟩, .bool true]) ∧ Below w.heap.size w w' := by
  obtain ⟨i0, hi, hz0, hz1, hz2⟩ := info_parts Ydlm.info5
  have HE := hide (align_eq s wd 2 (((wd : Int) - s.size) / 2) ((wd : Int) - s.size - (wd - s.size) / 2) h1 (by omega) (by simp [befN]; omega) (by omega))
  go_enter Ydlm.func28, Ydlm.ntmps28
  go_wp2_with fail
  refine (appendSpaces_any w.heap.size _ [] (((wd : Int) - s.size) / 2) _ (Buf.nil _ _) (Nat.le_refl _) (by omega) (by simp)).mono ?_
  rintro e w1 ⟨v1, rfl, hu1, hg1, hm1, -⟩
  have hB1 := hg1.size
  have hl1 : (bytesV ([] ++ spaces ((((wd : Int) - s.size) / 2)).toNat)).length ≤ 65536 := by rw [bytesV_length, List.nil_append, spaces_length]; omega
  go_wp2_with (at_builtin; go_must (refine wpList_append_str rfl _ _ 28 9 rfl w.heap.size 5 i0 Ydlm.underlying28 Ydlm.underlying9 hi hz0 hz1 hz2 v1 _ rfl w1 hu1 hB1 s rfl (by omega) ?_); intro v2 w2 hu2 hg2 hn2)
  clear hn2
  rw [strCells_bytesV, ← bytesV_append] at hu2
  have hb1 := below_of_grown_nil hg1
  have hb2 := Below.of_grown hb1 hu1 hB1 hg2
  clear hu1 hg1 hm1 hg2 hl1
  have hB2 := hb2.size
  go_wp2_with fail
  refine (appendSpaces_any w.heap.size _ _ ((wd : Int) - s.size - (wd - s.size) / 2) _ hu2 hB2 (by omega) ?_).mono ?_
  · rw [List.nil_append, List.length_append, spaces_length, data_len]; omega
  rintro e w3 ⟨v3, rfl, hu3, hg3, hm3, -⟩
  have hb3 := Below.of_grown hb2 hu2 hB2 hg3
  rw [unhide HE] at hu3
  have hcv := run_string_of_buf (P := Ydlm.prog) w3 28 9 Ydlm.underlying28 Ydlm.underlying5 Ydlm.underlying9 hu3
  clear hu2 hg3 hm3 hu3 hb2 hb1
  go_wp2
  go_ret2
  exact ⟨rfl, hb3⟩

theorem align_yes (s : ByteArray) (wd : Nat) (mode : Int) (w : World) (h1 : s.size ≤ wd) (h2 : wd ≤ 65536) (hm0 : 0 ≤ mode) (hm1 : mode ≤ 2) :
    Calls Ydlm.prog 28 #[.string s, .int .i64 wd, .int .i64 mode] w fun e w' => e = .returned (.tuple #[.string ⟨(alignL s.data.toList wd mode).toArray⟩, .bool true]) ∧ Below w.heap.size w w' := by
  rcases (show mode = 0 ∨ mode = 1 ∨ mode = 2 by omega) with rfl | rfl | rfl
  · exact align_mode0 s wd w h1 h2
  · exact align_mode1 s wd w h1 h2
  · exact align_mode2 s wd w h1 h2

theorem align_yesI (s : ByteArray) (width : Int) (mode : Int) (w : World) (h1 : (s.size : Int) ≤ width) (h2 : width ≤ 65536) (hm0 : 0 ≤ mode) (hm1 : mode ≤ 2) :
    Calls Ydlm.prog 28 #[.string s, .int .i64 width, .int .i64 mode] w fun e w' => e = .returned (.tuple #[.string ⟨(alignL s.data.toList width.toNat mode).toArray⟩, .bool true]) ∧ Below w.heap.size w w' := by
  obtain ⟨wd, rfl⟩ := Int.eq_ofNat_of_zero_le (show 0 ≤ width by omega)
  exact align_yes s wd mode w (by omega) (by omega) hm0 hm1

/-- The same, the string a letter. -/
theorem align_str (s : ByteArray) (width : Int) (mode : Int) (w : World) (h1 : (s.size : Int) ≤ width) (h2 : width ≤ 65536) (hm0 : 0 ≤ mode) (hm1 : mode ≤ 2) :
    Calls Ydlm.prog 28 #[.string s, .int .i64 width, .int .i64 mode] w fun e w' => ∃ r : ByteArray, e = .returned (.tuple #[.string r, .bool true]) ∧ Hid (r.data.toList = alignL s.data.toList width.toNat mode) ∧ Hid (r.size = width.toNat) ∧ Below w.heap.size w w' := by
  refine (align_yesI s width mode w h1 h2 hm0 hm1).mono ?_
  rintro e w' ⟨rfl, hb⟩
  exact ⟨_, rfl, rfl, (arr_size _).trans (alignL_length _ _ _ (by rw [data_len]; omega)), hb⟩

set_option maxHeartbeats 800000 in
theorem align_no (s : ByteArray) (width mode : Int) (w : World) (hs : s.size ≤ maxLen) (hw : width ≤ 9223372036854775807) (h : width < s.size ∨ 65536 < width ∨ mode < 0 ∨ 2 < mode) :
    Calls Ydlm.prog 28 #[.string s, .int .i64 width, .int .i64 mode] w fun e w' => e = .returned (.tuple #[.string ⟨#[]⟩, .bool false]) ∧ w' = w := by
  unfold maxLen at hs
  by_cases h1 : width < s.size
  · go_enter Ydlm.func28, Ydlm.ntmps28
    go_wp2
    go_ret2
    exact ⟨rfl, rfl⟩
  by_cases h2 : 65536 < width
  · go_enter Ydlm.func28, Ydlm.ntmps28
    go_wp2
    go_ret2
    exact ⟨rfl, rfl⟩
  have h3 : mode < 0 ∨ 2 < mode := by omega
  clear h
  rcases h3 with h3 | h3
  · go_enter Ydlm.func28, Ydlm.ntmps28
    go_wp2
    go_ret2
    exact ⟨rfl, rfl⟩
  · go_enter Ydlm.func28, Ydlm.ntmps28
    go_wp2
    go_ret2
    exact ⟨rfl, rfl⟩
end Go.Proofs.Ymbrdl
