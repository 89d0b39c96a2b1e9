import Derived.Test.YmbrdlRows
import Derived.Test.YmbrdlKit
import Derived.Test.YmbrdlRoomP
import Derived.WalkKit
import Derived.WalkSpells
import Derived.WalkLawsBesides
set_option linter.unusedSimpArgs false
set_option linter.unusedVariables false
namespace Go.Proofs.Ymbrdl
open Go.RowKit

set_option maxHeartbeats 800000 in
theorem room_any (a : Option Addr) (len cap : Nat) (ss : List ByteArray) (width : Int) (w : World) (hs : Strs w a len cap ss) (hw1 : width ≤ 9223372036854775807) :
    Calls Ydlm.prog 36 #[.slice a len cap, .int .i64 width] w fun e w' => e = .returned (.tuple #[.int .i64 (roomV ss width), .bool (roomOk ss width)]) ∧ w' = w := by
  have hle := hs.le
  have hmx := hs.max
  unfold maxLen at hmx
  by_cases h0 : width < 0
  · have R := hide (room_no (ss := ss) (k := 0) (width := width) (by omega))
    go_enter Ydlm.func36, Ydlm.ntmps36
    go_wp2
    go_ret2
    exact ⟨ret_two (unhide R).2.symm (unhide R).1.symm, rfl⟩
  go_enter Ydlm.func36, Ydlm.ntmps36
  go_wp2
  go_loop [6, 14] (fun r i => ∃ (k : Nat) (room : Int), k ≤ len ∧ i = .int .i64 k ∧ r = .int .i64 room ∧ 0 ≤ room ∧ room ≤ width ∧ Hid (room = width - jlen (ss.take k))) (fun _ i => len - (intOf i).toNat)
  case atStart => exact ⟨0, width, Nat.zero_le _, rfl, rfl, by omega, by omega, by simp [jlen, szs, Hid]⟩
  case round =>
    obtain ⟨k, room, hk, rfl, rfl, hr0, hr1, HR⟩ := hrel
    by_cases hlt : k < len
    · obtain ⟨b, off, s, rfl, hss, hsz, hb, hc⟩ := hs.nth k hlt
      have J := hide (jlen_take_succ hss)
      clear hss
      unfold maxLen at hsz
      by_cases hk0 : k < 1
      · by_cases hsr : room < s.size
        · have R := hide (room_no (ss := ss) (k := k + 1) (width := width) (by rw [unhide J, if_pos (by omega)]; have := unhide HR; omega))
          go_wp2
          go_ret2
          exact ⟨ret_two (unhide R).2.symm (unhide R).1.symm, rfl⟩
        · go_wp2
          go_round
          case rel => exact ⟨k + 1, room - s.size, by omega, by go_num, by go_num, by omega, by omega, by have h := unhide HR; show _ = _; rw [unhide J, if_pos (by omega)]; omega⟩
          case measure => simp [intOf]; omega
      · by_cases hr : room < 1
        · have R := hide (room_no (ss := ss) (k := k + 1) (width := width) (by rw [unhide J, if_neg (by omega)]; have := unhide HR; omega))
          go_wp2
          go_ret2
          exact ⟨ret_two (unhide R).2.symm (unhide R).1.symm, rfl⟩
        · by_cases hsr : room - 1 < s.size
          · have R := hide (room_no (ss := ss) (k := k + 1) (width := width) (by rw [unhide J, if_neg (by omega)]; have := unhide HR; omega))
            go_wp2
            go_ret2
            exact ⟨ret_two (unhide R).2.symm (unhide R).1.symm, rfl⟩
          · go_wp2
            go_round
            case rel => exact ⟨k + 1, room - 1 - s.size, by omega, by go_num, by go_num, by omega, by omega, by have h := unhide HR; show _ = _; rw [unhide J, if_neg (by omega)]; omega⟩
            case measure => simp [intOf]; omega
    · have hh := unhide HR
      have hl := hs.hlen
      rw [List.take_of_length_le (by omega)] at hh
      have R := hide (room_yes (ss := ss) (width := width) (by omega))
      have HE := hide hh
      clear hh hl
      go_wp2
      go_ret2
      exact ⟨ret_two (by rw [(unhide R).2]; exact unhide HE) (unhide R).1.symm, rfl⟩

theorem room_fits (a : Option Addr) (len cap : Nat) (ss : List ByteArray) (width : Int) (w : World) (hs : Strs w a len cap ss) (hw1 : width ≤ 9223372036854775807) (h : (jlen ss : Int) ≤ width) :
    Calls Ydlm.prog 36 #[.slice a len cap, .int .i64 width] w fun e w' => e = .returned (.tuple #[.int .i64 (width - jlen ss), .bool true]) ∧ w' = w := by
  refine (room_any a len cap ss width w hs hw1).mono ?_
  rintro e w' ⟨rfl, rfl⟩
  exact ⟨ret_two (room_yes h).2 (room_yes h).1, rfl⟩
theorem room_not (a : Option Addr) (len cap : Nat) (ss : List ByteArray) (width : Int) (w : World) (hs : Strs w a len cap ss) (hw1 : width ≤ 9223372036854775807) (h : width < (jlen ss : Int)) :
    Calls Ydlm.prog 36 #[.slice a len cap, .int .i64 width] w fun e w' => e = .returned (.tuple #[.int .i64 0, .bool false]) ∧ w' = w := by
  have h' : width < jlen (ss.take ss.length) := by rw [List.take_length]; exact h
  refine (room_any a len cap ss width w hs hw1).mono ?_
  rintro e w' ⟨rfl, rfl⟩
  exact ⟨ret_two (room_no h').2 (room_no h').1, rfl⟩
end Go.Proofs.Ymbrdl
