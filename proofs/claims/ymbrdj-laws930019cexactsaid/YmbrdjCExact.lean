import Derived.Test.YmbrdjCCopy
import Derived.Deep.QuietTactic
import Derived.BigQuiet
set_option linter.unusedSimpArgs false
set_option linter.unusedVariables false
namespace Go.Proofs.Ymbrdj
open Go.RowKit

/-- A buffer of the call's own, read as a slice of bytes. -/
theorem Buf.byts {w : World} {B : Nat} {v : Value} {l : List UInt8} (h : Buf w B v l) : ∃ a cap, v = .slice a l.length cap ∧ Byts w a l.length cap l ∧ (a = none ↔ v = .slice none 0 0) := by
  obtain ⟨a, cap, hv, hle, hmx, hf, hn, hc⟩ := Own.read h
  rw [bytesV_length] at hv hle
  refine ⟨a, cap, hv, ⟨rfl, hle, hmx, hn, hc⟩, ?_⟩
  rw [hv]
  constructor
  · intro ha
    subst ha
    have h0 := hn rfl
    have h1 : l.length = 0 := by omega
    rw [h0, h1]
  · intro he
    simp at he
    exact he.1

theorem tail_space {l : List UInt8} {n k : Nat} {c : UInt8} (h : (l ++ spaces n)[k]? = some c) (hk : l.length ≤ k) : c = 32 := by
  rw [List.getElem?_append_right hk, spaces, List.getElem?_replicate] at h
  split at h
  · exact (Option.some.inj h).symm
  · cases h

set_option maxHeartbeats 3000000 in
theorem cExact_core (a0 : Option Addr) (len0 cap0 : Nat) (l : List UInt8) (a1 : Int) (w : World) (w0 : Byts w a0 len0 cap0 l) (hn0 : -9223372036854775808 ≤ a1) (hn1 : a1 ≤ 9223372036854775807) :
    Calls Ydjm.prog 9 #[.slice a0 len0 cap0, .int .i64 a1] w fun e w' => e = .returned (.bool true) ∧ Below w.heap.size w w' := by
  have hle := w0.le
  have hmx := w0.max
  unfold maxLen at hmx
  have HL := hide w0.hlen
  by_cases hb0 : 1024 < len0
  · go_enter Ydjm.func9, Ydjm.ntmps9
    go_wp2
    go_ret
    exact ⟨rfl, Below.refl _ _⟩
  by_cases hb1 : 1024 < a1
  · go_enter Ydjm.func9, Ydjm.ntmps9
    go_wp2
    go_ret
    exact ⟨rfl, Below.refl _ _⟩
  go_enter Ydjm.func9, Ydjm.ntmps9
  go_wp2_with fail
  refine (ccopy_any _ _ _ l _ w0 (by omega)).mono ?_
  rintro e x1 ⟨v1, rfl, hu1, hbx1, hnil1⟩
  go_wp2_with fail
  refine (appendSpaces_any w.heap.size _ l a1 _ hu1 hbx1.size (by omega) (by have := unhide HL; omega)).mono ?_
  rintro e x2 ⟨v2, rfl, hu2, hg2, hm2, hnil2⟩
  have hbx2 := Below.of_grown hbx1 hu1 hbx1.size hg2
  obtain ⟨a5, cap5, rfl, hS5, hnn⟩ := Buf.byts hu2
  have hS0 := w0.below hbx2
  have hle5 := hS5.le
  have hmx5 := hS5.max
  unfold maxLen at hmx5
  have HNN := hide (hnn.trans (hnil2.trans (and_congr_left' hnil1)))
  have hNl : (l ++ spaces a1.toNat).length = len0 + a1.toNat := by rw [List.length_append, spaces_length, unhide HL]
  generalize hLL : l ++ spaces a1.toNat = LL at *
  have HLL := hide hLL
  generalize hN : LL.length = N at *
  have HN := hide hNl
  clear hu1 hu2 hg2 hm2 hnil1 hnil2 hnn hLL hN hbx1 hNl
  have hnl5 := Go.Lib.run_eql_slice_nil (P := Ydjm.prog) x2 26 5 a5 N cap5 0 0 Ydjm.underlying26
  have hnl0 := Go.Lib.run_eql_slice_nil (P := Ydjm.prog) x2 26 5 a0 len0 cap0 0 0 Ydjm.underlying26
  have HEQ : Hid (a5.isNone = (a0.isNone && decide (a1 ≤ 0))) := by
    have h := unhide HNN
    show _ = _
    cases a5 with
    | none =>
      obtain ⟨h1, h2⟩ := h.1 rfl
      rw [h1]; simp [h2]
    | some x =>
      cases a0 with
      | none =>
        have : ¬ a1 ≤ 0 := fun h3 => by have := h.2 ⟨rfl, h3⟩; cases this
        simp; omega
      | some y => rfl
  have hEQ := unhide HEQ
  by_cases hp : 0 < a1
  · have hne : ((N : Int) != (len0 : Int) + a1) = false := by have := unhide HN; simp; omega
    have hd1 : decide (a1 ≤ 0) = false := by simp; omega
    rw [hd1, Bool.and_false] at hEQ
    cases a0 with
    | none =>
      clear HEQ HNN
      go_wp2
      go_loopw [7] (fun i wr => ∃ k : Nat, k ≤ N ∧ i = .int .i64 k ∧ Below x2.heap.size x2 wr) (fun i _ => N - (intOf i).toNat)
      case atStart => exact ⟨0, Nat.zero_le _, rfl, Below.refl _ _⟩
      case round =>
        obtain ⟨k, hk, rfl, hbr⟩ := hrel
        by_cases hlt : k < N
        · obtain ⟨b5, off5, c5, ha5, hc5, hbl5, hcell5⟩ := (hS5.below hbr).nth k hlt
          first | subst ha5 | (simp at ha5; obtain ⟨rfl, rfl⟩ := ha5)
          by_cases hin : k < len0
          · exfalso
            obtain ⟨b0, off0, c0, ha0, -⟩ := (hS0.below hbr).nth k hin
            cases ha0
          · obtain rfl : c5 = 32 := by
              rw [← unhide HLL] at hc5
              exact tail_space hc5 (by have := unhide HL; omega)
            have e32 : (((32 : UInt8).toNat : Nat) : Int) = 32 := rfl
            rw [e32] at hcell5
            clear hc5 e32
            go_wp2
            go_roundw
            case rel => exact ⟨k + 1, by omega, by go_num, hbr⟩
            case measure => simp [intOf]; omega
        · have HB := hide (hbx2.trans (hbr.mono hbx2.size))
          go_wp2
          go_ret
          exact ⟨rfl, unhide HB⟩
    | some ad =>
      clear HEQ HNN
      go_wp2
      go_loopw [7] (fun i wr => ∃ k : Nat, k ≤ N ∧ i = .int .i64 k ∧ Below x2.heap.size x2 wr) (fun i _ => N - (intOf i).toNat)
      case atStart => exact ⟨0, Nat.zero_le _, rfl, Below.refl _ _⟩
      case round =>
        obtain ⟨k, hk, rfl, hbr⟩ := hrel
        by_cases hlt : k < N
        · obtain ⟨b5, off5, c5, ha5, hc5, hbl5, hcell5⟩ := (hS5.below hbr).nth k hlt
          first | subst ha5 | (simp at ha5; obtain ⟨rfl, rfl⟩ := ha5)
          by_cases hin : k < len0
          · obtain ⟨b0, off0, c0, ha0, hc0, hbl0, hcell0⟩ := (hS0.below hbr).nth k hin
            first | (exfalso; cases ha0; done) | skip
            simp at ha0; subst ha0
            obtain rfl : c0 = c5 := by
              rw [← unhide HLL, List.getElem?_append_left (by have := unhide HL; omega), hc0] at hc5
              exact Option.some.inj hc5
            clear hc0 hc5
            go_wp2_with fail
            go_quiet (fail)
            go_wp2
            go_roundw
            case rel => exact ⟨k + 1, by omega, by go_num, below_drewN hbr _⟩
            case measure => simp [intOf]; omega
          · obtain rfl : c5 = 32 := by
              rw [← unhide HLL] at hc5
              exact tail_space hc5 (by have := unhide HL; omega)
            have e32 : (((32 : UInt8).toNat : Nat) : Int) = 32 := rfl
            rw [e32] at hcell5
            clear hc5 e32
            go_wp2
            go_roundw
            case rel => exact ⟨k + 1, by omega, by go_num, hbr⟩
            case measure => simp [intOf]; omega
        · have HB := hide (hbx2.trans (hbr.mono hbx2.size))
          go_wp2
          go_ret
          exact ⟨rfl, unhide HB⟩
  · have hne : ((N : Int) != (len0 : Int)) = false := by have := unhide HN; simp; omega
    have hd1 : decide (a1 ≤ 0) = true := by simp; omega
    rw [hd1, Bool.and_true] at hEQ
    cases a0 with
    | none =>
      clear HEQ HNN
      go_wp2
      go_loopw [7] (fun i wr => ∃ k : Nat, k ≤ N ∧ i = .int .i64 k ∧ Below x2.heap.size x2 wr) (fun i _ => N - (intOf i).toNat)
      case atStart => exact ⟨0, Nat.zero_le _, rfl, Below.refl _ _⟩
      case round =>
        obtain ⟨k, hk, rfl, hbr⟩ := hrel
        by_cases hlt : k < N
        · obtain ⟨b5, off5, c5, ha5, hc5, hbl5, hcell5⟩ := (hS5.below hbr).nth k hlt
          first | subst ha5 | (simp at ha5; obtain ⟨rfl, rfl⟩ := ha5)
          by_cases hin : k < len0
          · exfalso
            obtain ⟨b0, off0, c0, ha0, -⟩ := (hS0.below hbr).nth k hin
            cases ha0
          · obtain rfl : c5 = 32 := by
              rw [← unhide HLL] at hc5
              exact tail_space hc5 (by have := unhide HL; omega)
            have e32 : (((32 : UInt8).toNat : Nat) : Int) = 32 := rfl
            rw [e32] at hcell5
            clear hc5 e32
            go_wp2
            go_roundw
            case rel => exact ⟨k + 1, by omega, by go_num, hbr⟩
            case measure => simp [intOf]; omega
        · have HB := hide (hbx2.trans (hbr.mono hbx2.size))
          go_wp2
          go_ret
          exact ⟨rfl, unhide HB⟩
    | some ad =>
      clear HEQ HNN
      go_wp2
      go_loopw [7] (fun i wr => ∃ k : Nat, k ≤ N ∧ i = .int .i64 k ∧ Below x2.heap.size x2 wr) (fun i _ => N - (intOf i).toNat)
      case atStart => exact ⟨0, Nat.zero_le _, rfl, Below.refl _ _⟩
      case round =>
        obtain ⟨k, hk, rfl, hbr⟩ := hrel
        by_cases hlt : k < N
        · obtain ⟨b5, off5, c5, ha5, hc5, hbl5, hcell5⟩ := (hS5.below hbr).nth k hlt
          first | subst ha5 | (simp at ha5; obtain ⟨rfl, rfl⟩ := ha5)
          by_cases hin : k < len0
          · obtain ⟨b0, off0, c0, ha0, hc0, hbl0, hcell0⟩ := (hS0.below hbr).nth k hin
            first | (exfalso; cases ha0; done) | skip
            simp at ha0; subst ha0
            obtain rfl : c0 = c5 := by
              rw [← unhide HLL, List.getElem?_append_left (by have := unhide HL; omega), hc0] at hc5
              exact Option.some.inj hc5
            clear hc0 hc5
            go_wp2_with fail
            go_quiet (fail)
            go_wp2
            go_roundw
            case rel => exact ⟨k + 1, by omega, by go_num, below_drewN hbr _⟩
            case measure => simp [intOf]; omega
          · obtain rfl : c5 = 32 := by
              rw [← unhide HLL] at hc5
              exact tail_space hc5 (by have := unhide HL; omega)
            have e32 : (((32 : UInt8).toNat : Nat) : Int) = 32 := rfl
            rw [e32] at hcell5
            clear hc5 e32
            go_wp2
            go_roundw
            case rel => exact ⟨k + 1, by omega, by go_num, hbr⟩
            case measure => simp [intOf]; omega
        · have HB := hide (hbx2.trans (hbr.mono hbx2.size))
          go_wp2
          go_ret
          exact ⟨rfl, unhide HB⟩

theorem cExact_walk (a0 : Option Addr) (len0 cap0 : Nat) (z0 : List Int) (a1 : Int) (w : World) (w0 : Nums .u8 w a0 len0 cap0 z0) (w1 : (Lit.int .i64 a1).wf = true) :
    Calls Ydjm.prog 9 #[.slice a0 len0 cap0, .int .i64 a1] w fun e w' => e = .returned (.bool true) ∧ Below w.heap.size w w' := by
  obtain ⟨h1, h2⟩ := bounds_i64 w1
  obtain ⟨l, hl⟩ := bytes_of_nums w0
  exact cExact_core a0 len0 cap0 l a1 w hl h1 h2
end Go.Proofs.Ymbrdj
