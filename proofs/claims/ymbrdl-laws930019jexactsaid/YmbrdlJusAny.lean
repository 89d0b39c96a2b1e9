import Derived.Test.YmbrdlJustify
set_option linter.unusedSimpArgs false
set_option linter.unusedVariables false
namespace Go.Proofs.Ymbrdl
open Go.RowKit

set_option maxHeartbeats 1600000 in
theorem justify_yes (a : Option Addr) (len cap : Nat) (ss : List ByteArray) (wd : Int) (w : World) (hs : Strs w a len cap ss) (hbd : szs ss + len ≤ 4294967296) (hj : (jlen ss : Int) ≤ wd) (hw : wd ≤ 65536) :
    Calls Ydlm.prog 34 #[.slice a len cap, .int .i64 wd] w fun e w' => ∃ r : ByteArray, e = .returned (.tuple #[.string r, .bool true]) ∧ Hid (r.data.toList = jusL ss wd.toNat) ∧ Hid (r.size = wd.toNat) ∧ Below w.heap.size w w' := by
  obtain ⟨wn, rfl⟩ := Int.eq_ofNat_of_zero_le (show 0 ≤ wd by omega)
  have hsz : ∀ r : ByteArray, r.data.toList = jusL ss wn → r.size = wn := fun r h => by
    have h1 := congrArg List.length h
    rw [jusL_length (by omega)] at h1
    rw [← h1]; simp
  by_cases hlen : 2 ≤ len
  · refine (justify_many a len cap ss wn w hs hlen (by omega) (by omega)).mono ?_
    rintro e w' ⟨r, rfl, hr, hb⟩
    exact ⟨r, rfl, hr, hsz r (unhide hr), hb⟩
  · have hle := hs.le
    have hmx := hs.max
    unfold maxLen at hmx
    have HSZ := hide hsz
    have HJ : Hid (jusL ss wn = alignL (wordsL ss) wn 0) := by
      show _ = _
      unfold jusL
      rw [if_pos (by have := hs.hlen; omega)]
    clear hsz
    go_enter Ydlm.func34, Ydlm.ntmps34
    go_wp2_with fail
    refine (joinWords_any _ _ _ ss _ hs hbd).mono ?_
    rintro e x1 ⟨r1, rfl, HR1, hb1⟩
    have hr1 : r1.size = jlen ss := by
      have h1 := congrArg List.length (unhide HR1)
      rw [wordsL_length] at h1
      rw [← h1]; simp
    have hr2 : (r1.size : Int) ≤ (wn : Int) := by omega
    clear hr1
    go_wp2_with fail
    refine (align_str _ _ _ _ hr2 (by omega) (by omega) (by omega)).mono ?_
    rintro e x2 ⟨r2, rfl, HR2, HZ2, hb2⟩
    have HB := hide (hb1.trans (hb2.mono hb1.size))
    have HE : Hid (r2.data.toList = jusL ss wn) := by
      show _ = _
      rw [unhide HR2, unhide HR1, unhide HJ]; rfl
    clear hb1 hb2
    go_wp2
    go_ret2
    exact ⟨r2, rfl, unhide HE, unhide HSZ r2 (unhide HE), unhide HB⟩

set_option maxHeartbeats 1600000 in
theorem justify_no (a : Option Addr) (len cap : Nat) (ss : List ByteArray) (wd : Int) (w : World) (hs : Strs w a len cap ss) (hbd : szs ss + len ≤ 4294967296) (hw : wd ≤ 9223372036854775807) (hj : wd < (jlen ss : Int) ∨ 65536 < wd) :
    Calls Ydlm.prog 34 #[.slice a len cap, .int .i64 wd] w fun e w' => e = .returned (.tuple #[.string ⟨#[]⟩, .bool false]) ∧ Below w.heap.size w w' := by
  have hle := hs.le
  have hmx := hs.max
  unfold maxLen at hmx
  by_cases hlen : 2 ≤ len
  · by_cases hf : (jlen ss : Int) ≤ wd
    · have hw2 : 65536 < wd := by omega
      clear hj
      go_enter Ydlm.func34, Ydlm.ntmps34
      go_wp2_with fail
      refine (room_fits _ _ _ ss _ _ hs hw hf).mono ?_
      rintro e w' ⟨rfl, hw'⟩
      obtain rfl := hw'.symm
      go_wp2
      go_ret2
      exact ⟨rfl, Below.refl _ _⟩
    · clear hj
      go_enter Ydlm.func34, Ydlm.ntmps34
      go_wp2_with fail
      refine (room_not _ _ _ ss _ _ hs hw (by omega)).mono ?_
      rintro e w' ⟨rfl, hw'⟩
      obtain rfl := hw'.symm
      go_wp2
      go_ret2
      exact ⟨rfl, Below.refl _ _⟩
  · go_enter Ydlm.func34, Ydlm.ntmps34
    go_wp2_with fail
    refine (joinWords_any _ _ _ ss _ hs hbd).mono ?_
    rintro e x1 ⟨r1, rfl, HR1, hb1⟩
    have hr1 : r1.size = jlen ss := by
      have h1 := congrArg List.length (unhide HR1)
      rw [wordsL_length] at h1
      rw [← h1]; simp
    have hr2 : wd < (r1.size : Int) ∨ 65536 < wd ∨ (0 : Int) < 0 ∨ (2 : Int) < 0 := by omega
    have hrz : r1.size ≤ maxLen := by
      have h2 : jlen ss ≤ szs ss + len := by unfold jlen; have := hs.hlen; omega
      unfold maxLen; omega
    clear hr1 hj
    have H2 := hide hr2
    clear hr2
    go_wp2_with fail
    refine (align_no _ _ _ _ hrz hw (unhide H2)).mono ?_
    rintro e w' ⟨rfl, hw'⟩
    obtain rfl := hw'.symm
    go_wp2
    go_ret2
    exact ⟨rfl, hb1⟩
end Go.Proofs.Ymbrdl
