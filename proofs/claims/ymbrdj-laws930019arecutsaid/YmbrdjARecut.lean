import Derived.Test.YmbrdjRecut
import Derived.Deep.QuietTactic
import Derived.BigQuiet
set_option linter.unusedSimpArgs false
set_option linter.unusedVariables false
namespace Go.Proofs.Ymbrdj
open Go.RowKit

theorem row_le_flat {α : Type} {L : List (List α)} {ss : List α} (h : ss ∈ L) : ss.length ≤ L.flatten.length := by
  induction L with
  | nil => cases h
  | cons a t ih =>
    rw [List.flatten_cons, List.length_append]
    rcases List.mem_cons.1 h with rfl | h
    · omega
    · have := ih h; omega

set_option maxHeartbeats 1600000 in
theorem aRecut_walk (a0 : Option Addr) (len0 cap0 : Nat) (z0 : List ByteArray) (a1 : Option Addr) (len1 cap1 : Nat) (z1 : List Int) (w : World) (w0 : Strs w a0 len0 cap0 z0) (w1 : Nums .u8 w a1 len1 cap1 z1) :
    Calls Ydjm.prog 4 #[.slice a0 len0 cap0, .slice a1 len1 cap1] w fun e w' => e = .returned (.bool true) ∧ Below w.heap.size w w' := by
  have hle0 := w0.le
  have hmx0 := w0.max
  have hle1 := w1.le
  have hmx1 := w1.max
  have HL0 := hide w0.hlen
  unfold maxLen at hmx0 hmx1
  by_cases hb0 : 1024 < len0
  · go_enter Ydjm.func4, Ydjm.ntmps4
    go_wp2
    go_ret
    exact ⟨rfl, Below.refl _ _⟩
  by_cases hb1 : 1024 < len1
  · go_enter Ydjm.func4, Ydjm.ntmps4
    go_wp2
    go_ret
    exact ⟨rfl, Below.refl _ _⟩
  go_enter Ydjm.func4, Ydjm.ntmps4
  go_wp2_with fail
  refine (acut_any _ _ _ z0 _ _ _ z1 _ w0 w1 (by omega) (by omega)).mono ?_
  rintro e x1 ⟨v1, L, rfl, hH, hLl, hLf, hbx1⟩
  obtain ⟨a2, cap2, rfl, hS2⟩ := hH.strss hbx1
  have HLF := hide hLf
  clear hH hLf
  go_wp2_with fail
  refine (unwrap_any _ _ _ L _ hS2 (by omega) (fun ss h => by have h1 := row_le_flat h; rw [unhide HLF] at h1; have := unhide HL0; omega)).mono ?_
  rintro e x2 ⟨v2, rfl, hown, hbx2, -⟩
  rw [unhide HLF] at hown
  obtain ⟨a3, cap3, rfl, hS3, -⟩ := Own.strs hown w0.sz
  clear hown hS2
  rw [unhide HL0] at hS3 ⊢
  have hbx := hbx1.trans (hbx2.mono hbx1.size)
  have hS0 := w0.below hbx
  clear hbx1 hbx2 w0 w1
  have hne : ((len0 : Int) != (len0 : Int)) = false := by simp
  go_wp2
  go_loopw [6] (fun i wr => ∃ k : Nat, k ≤ len0 ∧ i = .int .i64 k ∧ Below x2.heap.size x2 wr) (fun i _ => len0 - (intOf i).toNat)
  case atStart => exact ⟨0, Nat.zero_le _, rfl, Below.refl _ _⟩
  case round =>
    obtain ⟨k, hk, rfl, hbr⟩ := hrel
    by_cases hlt : k < len0
    · obtain ⟨b3, off3, s3, rfl, hs3, -, hbl3, hc3⟩ := (hS3.below hbr).nth k hlt
      obtain ⟨b4, off4, s4, rfl, hs4, -, hbl4, hc4⟩ := (hS0.below hbr).nth k hlt
      obtain rfl : s4 = s3 := by rw [hs3] at hs4; simpa using hs4.symm
      clear hs3 hs4
      go_wp2_with fail
      go_quiet (fail)
      go_wp2
      go_roundw
      case rel => exact ⟨k + 1, by omega, by go_num, below_drewN hbr _⟩
      case measure => simp [intOf]; omega
    · have HB := hide (hbx.trans (hbr.mono hbx.size))
      go_wp2
      go_ret
      exact ⟨rfl, unhide HB⟩
end Go.Proofs.Ymbrdj
