import Derived.Test.YmbrdjJustify
set_option linter.unusedSimpArgs false
set_option linter.unusedVariables false
namespace Go.Proofs.Ymbrdj
open Go.RowKit

set_option maxHeartbeats 1600000 in
theorem justify_yes (a : Option Addr) (len cap : Nat) (ss : List ByteArray) (wd : Int) (w : World) (hs : Strs w a len cap ss) (hbd : szs ss + len ≤ 4294967296) (hj : (jlen ss : Int) ≤ wd) (hw : wd ≤ 65536) :
    Calls Ydjm.prog 18 #[.slice a len cap, .int .i64 wd] w fun e w' => ∃ r : ByteArray, e = .returned (.tuple #[.string r, .bool true]) ∧ Hid (r.data.toList = jusL ss wd.toNat) ∧ Hid (r.size = wd.toNat) ∧ Below w.heap.size w w' := by
  obtain ⟨wn, rfl⟩ := Int.eq_ofNat_of_zero_le (show 0 ≤ wd by omega)
  have hsz : ∀ r : ByteArray, r.data.toList = jusL ss wn → r.size = wn := fun r h => by
    have h1 := congrArg List.length h
    rw [jusL_length (by omega)] at h1
    rw [← h1]; simp
  by_cases hlen : 2 ≤ len
  · refine (justify_many a len cap ss wn w hs hlen (by omega) (by omega)).mono ?_
    rintro e w' ⟨r, rfl, hr, hb⟩
    exact ⟨r, rfl, hr, hsz r (unhide hr), hb⟩
  · have hle := hs.le
    have hmx := hs.max
    unfold maxLen at hmx
    have HSZ := hide hsz
    have HJ : Hid (jusL ss wn = alignL (wordsL ss) wn 0) := by
      show _ = _
      unfold jusL
      rw [if_pos (by have := hs.hlen; omega)]
    clear hsz
    go_enter Ydjm.func18, Ydjm.ntmps18
    go_wp2_with fail
    refine (joinWords_any _ _ _ ss _ hs hbd).mono ?_
    rintro e x1 ⟨r1, rfl, HR1, hb1⟩
    have hr1 : r1.size = jlen ss := by
      have h1 := congrArg List.length (unhide HR1)
      rw [wordsL_length] at h1
      rw [← h1]; simp
    have hr2 : (r1.size : Int) ≤ (wn : Int) := by omega
    clear hr1
    go_wp2_with fail
    refine (align_str _ _ _ _ hr2 (by omega) (by omega) (by omega)).mono ?_
    rintro e x2 ⟨r2, rfl, HR2, HZ2, hb2⟩
    have HB := hide (hb1.trans (hb2.mono hb1.size))
    have HE : Hid (r2.data.toList = jusL ss wn) := by
      show _ = _
      rw [unhide HR2, unhide HR1, unhide HJ]; rfl
    clear hb1 hb2
    go_wp2
    go_ret2
    exact ⟨r2, rfl, unhide HE, unhide HSZ r2 (unhide HE), unhide HB⟩

set_option maxHeartbeats 1600000 in
theorem justify_no (a : Option Addr) (len cap : Nat) (ss : List ByteArray) (wd : Int) (w : World) (hs : Strs w a len cap ss) (hbd : szs ss + len ≤ 4294967296) (hw : wd ≤ 9223372036854775807) (hj : wd < (jlen ss : Int) ∨ 65536 < wd) :
    Calls Ydjm.prog 18 #[.slice a len cap, .int .i64 wd] w fun e w' => e = .returned (.tuple #[.string ⟨#[]⟩, .bool false]) ∧ Below w.heap.size w w' := by
  have hle := hs.le
  have hmx := hs.max
  unfold maxLen at hmx
  by_cases hlen : 2 ≤ len
  · by_cases hf : (jlen ss : Int) ≤ wd
    · have hw2 : 65536 < wd := by omega
      clear hj
      go_enter Ydjm.func18, Ydjm.ntmps18
      go_wp2_with fail
      refine (room_fits _ _ _ ss _ _ hs hw hf).mono ?_
      rintro e w' ⟨rfl, hw'⟩
      obtain rfl := hw'.symm
      go_wp2
      go_ret2
      exact ⟨rfl, Below.refl _ _⟩
    · clear hj
      go_enter Ydjm.func18, Ydjm.ntmps18
      go_wp2_with fail
      refine (room_not _ _ _ ss _ _ hs hw (by omega)).mono ?_
      rintro e w' ⟨rfl, hw'⟩
      obtain rfl := hw'.symm
      go_wp2
      go_ret2
      exact ⟨rfl, Below.refl _ _⟩
  · go_enter Ydjm.func18, Ydjm.ntmps18
    go_wp2_with fail
    refine (joinWords_any _ _ _ ss _ hs hbd).mono ?_
    rintro e x1 ⟨r1, rfl, HR1, hb1⟩
    have hr1 : r1.size = jlen ss := by
      have h1 := congrArg List.length (unhide HR1)
      rw [wordsL_length] at h1
      rw [← h1]; simp
    have hr2 : wd < (r1.size : Int) ∨ 65536 < wd ∨ (0 : Int) < 0 ∨ (2 : Int) < 0 := by omega
    have hrz : r1.size ≤ maxLen := by
      have h2 : jlen ss ≤ szs ss + len := by unfold jlen; have := hs.hlen; omega
      unfold maxLen; omega
    clear hr1 hj
    have H2 := hide hr2
    clear hr2
    go_wp2_with fail
    refine (align_no _ _ _ _ hrz hw (unhide H2)).mono ?_
    rintro e w' ⟨rfl, hw'⟩
    obtain rfl := hw'.symm
    go_wp2
    go_ret2
    exact ⟨rfl, hb1⟩

def BSm (ss : List ByteArray) : Prop := ss.length ≤ 1024 ∧ szs ss ≤ 32768

set_option maxHeartbeats 1600000 in
theorem bjoined_any (a : Option Addr) (len cap : Nat) (ss : List ByteArray) (w : World) (hs : Strs w a len cap ss) :
    Calls Ydjm.prog 17 #[.slice a len cap] w fun e w' => ((¬ BSm ss ∧ e = .returned (.tuple #[.int .i64 0, .bool false])) ∨ (BSm ss ∧ e = .returned (.tuple #[.int .i64 (jlen ss), .bool true]))) ∧ w' = w := by
  have hle := hs.le
  have hmx := hs.max
  have hl := hide hs.hlen
  unfold maxLen at hmx
  by_cases hbig : 1024 < len
  · have R : Hid (¬ BSm ss) := fun h => by have := h.1; have := unhide hl; omega
    go_enter Ydjm.func17, Ydjm.ntmps17
    go_wp2
    go_ret2
    exact ⟨.inl ⟨unhide R, rfl⟩, rfl⟩
  go_enter Ydjm.func17, Ydjm.ntmps17
  go_wp2
  go_loop [4, 12] (fun t i => ∃ (k m : Nat), k ≤ len ∧ i = .int .i64 k ∧ t = .int .i64 m ∧ m ≤ 32768 ∧ Hid (m = szs (ss.take k))) (fun _ i => len - (intOf i).toNat)
  case atStart => exact ⟨0, 0, Nat.zero_le _, rfl, rfl, by omega, by simp [szs, Hid]⟩
  case round =>
    obtain ⟨k, m, hk, rfl, rfl, hm, HM⟩ := hrel
    by_cases hlt : k < len
    · obtain ⟨b, off, s, rfl, hss, hsz, hb, hc⟩ := hs.nth k hlt
      have HJ := hide (szs_take_succ hss)
      clear hss
      unfold maxLen at hsz
      by_cases hsr : 32768 - m < s.size
      · have R : Hid (¬ BSm ss) := fun h => by have h1 := h.2; have h2 := szs_take_le ss (k + 1); have h3 := unhide HJ; have h4 := unhide HM; omega
        go_wp2
        go_ret2
        exact ⟨.inl ⟨unhide R, rfl⟩, rfl⟩
      · go_wp2
        go_round
        case rel => exact ⟨k + 1, m + s.size, by omega, by go_num, by go_num, by omega, by have h3 := unhide HJ; have h4 := unhide HM; show _ = _; omega⟩
        case measure => simp [intOf]; omega
    · have hh := unhide HM
      have hl' := unhide hl
      rw [List.take_of_length_le (by omega)] at hh
      have R : Hid (BSm ss) := ⟨by omega, by omega⟩
      have E : Hid (jlen ss = m + (len - 1)) := by show _ = _; unfold jlen; omega
      clear hh hl'
      by_cases h1 : 1 < len
      · go_wp2
        go_ret2
        exact ⟨.inr ⟨unhide R, ret_two (by rw [unhide E]; omega) rfl⟩, rfl⟩
      · go_wp2
        go_ret2
        exact ⟨.inr ⟨unhide R, ret_two (by rw [unhide E]; omega) rfl⟩, rfl⟩
end Go.Proofs.Ymbrdj
