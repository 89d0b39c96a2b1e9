import Derived.Test.YmbrdjSpIn2
import Derived.Deep.QuietTactic
import Derived.BigQuiet
set_option linter.unusedSimpArgs false
set_option linter.unusedVariables false
namespace Go.Proofs.Ymbrdj
open Go.RowKit

theorem row_of_owns {w : World} {B g n : Nat} {l : List UInt8} (h : w.ownsRow B 5 1 (.slice (some ⟨g, 0, none⟩) n n) n (bytesV l)) : RowAt w g l := by
  rcases h.2 with ⟨h', _⟩ | ⟨g', cap', cur, h', hb, hg, h1, h2, h3, h4⟩
  · simp at h'
  · simp at h'
    obtain ⟨rfl, rfl⟩ := h'
    unfold RowAt
    rw [hg]
    have : cur = (bytesV l).toArray := by
      apply Array.ext'
      rw [← h4, List.take_of_length_le (by simp; omega)]
    rw [this]

theorem fill_mid {l : List UInt8} {k m i : Nat} (h1 : k ≤ i) (h2 : i < k + m) (h3 : i < l.length) : (fillL l k m)[i]? = some 32 := by
  unfold fillL
  rw [List.getElem?_append_left (by rw [List.length_append, spaces_length, List.length_take]; omega), List.getElem?_append_right (by rw [List.length_take]; omega), spaces, List.getElem?_replicate, if_pos (by rw [List.length_take]; omega)]
theorem fill_out {l : List UInt8} {k m i : Nat} (h : i < k ∨ k + m ≤ i) (h3 : i < l.length) (hk : k ≤ l.length) : (fillL l k m)[i]? = l[i]? := by
  unfold fillL
  rcases h with h | h
  · rw [List.getElem?_append_left (by rw [List.length_append, spaces_length, List.length_take]; omega), List.getElem?_append_left (by rw [List.length_take]; omega), List.getElem?_take, if_pos h]
  · rw [List.getElem?_append_right (by rw [List.length_append, spaces_length, List.length_take]; omega), List.getElem?_drop]
    congr 1
    rw [List.length_append, spaces_length, List.length_take]; omega

set_option maxHeartbeats 3000000 in
theorem cSpare_core (a0 : Option Addr) (len0 cap0 : Nat) (l : List UInt8) (a1 a2 : Int) (w : World) (w0 : Byts w a0 len0 cap0 l) (hc1 : 0 ≤ a1) (hc2 : a1 ≤ 65535) (hn0 : -9223372036854775808 ≤ a2) (hn1 : a2 ≤ 9223372036854775807) :
    Calls Ydjm.prog 10 #[.slice a0 len0 cap0, .int .u16 a1, .int .i64 a2] w fun e w' => e = .returned (.bool true) ∧ Below w.heap.size w w' := by
  obtain ⟨i0, hi, hz0, hz1, hz2⟩ := info_parts Ydjm.info5
  have hle := w0.le
  have hmx := w0.max
  unfold maxLen at hmx
  have HL := hide w0.hlen
  by_cases hb0 : 1024 < len0
  · go_enter Ydjm.func10, Ydjm.ntmps10
    go_wp2
    go_ret
    exact ⟨rfl, Below.refl _ _⟩
  by_cases hb1 : 1024 < a2
  · go_enter Ydjm.func10, Ydjm.ntmps10
    go_wp2
    go_ret
    exact ⟨rfl, Below.refl _ _⟩
  obtain ⟨K, hK, hK1⟩ : ∃ K : Nat, a1 % ((len0 : Int) + 1) = (K : Int) ∧ K ≤ len0 := by
    have h1 := Int.emod_nonneg a1 (b := (len0 : Int) + 1) (by omega)
    have h2 := Int.emod_lt_of_pos a1 (b := (len0 : Int) + 1) (by omega)
    exact ⟨(a1 % ((len0 : Int) + 1)).toNat, by omega, by omega⟩
  go_enter Ydjm.func10, Ydjm.ntmps10
  go_wp2_with (at_make; go_must (refine wpList_make_full _ rfl _ _ 26 rfl w.heap.size 5 i0 (.int .u8 0) 1 Ydjm.underlying26 hi hz0 hz1 .i64 .i64 _ _ len0 rfl rfl rfl rfl (by rw [hz2]; omega) (by unfold maxLen; omega) (Nat.le_refl _) ?_); intro w1 hrow hg)
  have hbw1 : Below w.heap.size w w1 := ⟨hg.os, hg.tape, hg.output, hg.size, fun k hk => hg.block k hk (by simp)⟩
  generalize (madeCells (Value.int IntKind.u8 0).cells (len0 * 1)).toList = xs0 at *
  clear hg
  go_wp2
  try rw [hK]
  clear hK
  go_loopw [9] (fun i wr => ∃ (k : Nat) (xs : List Value), k ≤ len0 ∧ i = .int .i64 k ∧ wr.ownsRow w.heap.size 5 1 (.slice (some ⟨w.heap.size, 0, none⟩) len0 len0) len0 xs ∧ Hid (xs.take k = (bytesV l).take k) ∧ Below w.heap.size w wr) (fun i _ => len0 - (intOf i).toNat)
  case atStart => exact ⟨0, xs0, Nat.zero_le _, rfl, hrow, by simp [Hid], hbw1⟩
  case round =>
    obtain ⟨k, xs, hk, rfl, hr, HX, hb⟩ := hrel
    by_cases hlt : k < len0
    · obtain ⟨b, off, c, rfl, hc, hbl, hcell⟩ := (w0.below hb).nth k hlt
      have hxl : k < xs.length := by have := hr.1; omega
      have hcq := hr.cellAt k (by omega)
      rw [List.getElem?_eq_getElem hxl] at hcq
      generalize xs[k] = u at hcq
      have hfq := hr.frozenAt k
      have hst := hr.stored k (.int .u8 (c.toNat : Int))
      have R3 := hide (set_take_succ (y := Value.int .u8 (c.toNat : Int)) (unhide HX) (by rw [bytesV, List.getElem?_map, hc]; rfl) hxl)
      have HR1 := hide hst.1
      have HR2 := hide (Below.grown hb hst.2 hb.size (fun j hj => by simp at hj; omega))
      clear hst hr hc hxl
      go_wp2
      go_roundw
      case rel => exact ⟨k + 1, _, by omega, by go_num, unhide HR1, R3, unhide HR2⟩
      case measure => simp [intOf]; omega
    · have hx := unhide HX
      have h1 := hr.1
      rw [List.take_of_length_le (by omega), List.take_of_length_le (by rw [bytesV_length]; have := unhide HL; omega)] at hx
      rw [hx] at hr
      have hR := row_of_owns hr
      clear hr hx h1 HX
      generalize wr = X at *
      go_wp2_with fail
      refine (appendSpaces_in w.heap.size K len0 l a2 _ hR (unhide HL) hK1 (by omega) (by omega)).mono ?_
      rintro e x2 ⟨⟨a5, cap5, rfl⟩, hR2, hg2⟩
      have hbx2 : Below w.heap.size w x2 := hb.grown hg2 hb.size (fun j hj => by simp at hj; omega)
      have hS0 := w0.below hbx2
      have hgl : w.heap.size < x2.heap.size := (Array.getElem?_eq_some_iff.1 hR2).1
      clear hg2 hR
      by_cases hp : 0 < a2
      · obtain ⟨m, rfl⟩ := Int.eq_ofNat_of_zero_le (show 0 ≤ a2 by omega)
        rw [Int.toNat_natCast] at hR2 ⊢
        have hne : (((K + m : Nat) : Int) != (K : Int) + (m : Int)) = false := by simp
        go_wp2
        go_loopw [12] (fun i wr => ∃ q : Nat, q ≤ len0 ∧ i = .int .i64 q ∧ Below x2.heap.size x2 wr) (fun i _ => len0 - (intOf i).toNat)
        case atStart => exact ⟨0, Nat.zero_le _, rfl, Below.refl _ _⟩
        case round =>
          obtain ⟨q, hq, rfl, hbr⟩ := hrel
          by_cases hltq : q < len0
          · obtain ⟨b0, off0, c0, rfl, hc0, hbl0, hcell0⟩ := (hS0.below hbr).nth q hltq
            have hcb : ∀ c : UInt8, (fillL l K m)[q]? = some c → wr.cell? ⟨w.heap.size, q, none⟩ = some (.int .u8 (c.toNat : Int)) := fun c hc => by
              rw [hbr.cell (p := ⟨w.heap.size, q, none⟩) hgl]
              exact hR2.cells q _ (by rw [bytesV, List.getElem?_map, hc]; rfl)
            by_cases hin : K ≤ q ∧ q < K + m
            · have hcc := hcb 32 (fill_mid hin.1 hin.2 (by have := unhide HL; omega))
              have e32 : (((32 : UInt8).toNat : Nat) : Int) = 32 := rfl
              rw [e32] at hcc
              obtain ⟨hin1, hin2⟩ := hin
              clear hcb e32 hc0
              go_wp2
              go_roundw
              case rel => exact ⟨q + 1, by omega, by go_num, hbr⟩
              case measure => simp [intOf]; omega
            · have hcc := hcb c0 (by rw [fill_out (by omega) (by have := unhide HL; omega) (by have := unhide HL; omega)]; exact hc0)
              clear hcb hc0
              by_cases hin1 : K ≤ q
              · have hin2 : ¬ q < K + m := fun h => hin ⟨hin1, h⟩
                have hd2 : decide ((q : Int) < (K : Int) + (m : Int)) = false := by simp; omega
                clear hin
                go_wp2_with fail
                go_quiet (fail)
                go_wp2
                go_roundw
                case rel => exact ⟨q + 1, by omega, by go_num, below_drewN hbr _⟩
                case measure => simp [intOf]; omega
              · have hd1 : decide ((K : Int) ≤ (q : Int)) = false := by simp; omega
                clear hin
                go_wp2_with fail
                go_quiet (fail)
                go_wp2
                go_roundw
                case rel => exact ⟨q + 1, by omega, by go_num, below_drewN hbr _⟩
                case measure => simp [intOf]; omega
          · have HB := hide (hbx2.trans (hbr.mono hbx2.size))
            go_wp2
            go_ret
            exact ⟨rfl, unhide HB⟩
      · have hm0 : a2.toNat = 0 := by omega
        rw [hm0] at hR2 ⊢
        clear hm0
        go_wp2
        go_loopw [12] (fun i wr => ∃ q : Nat, q ≤ len0 ∧ i = .int .i64 q ∧ Below x2.heap.size x2 wr) (fun i _ => len0 - (intOf i).toNat)
        case atStart => exact ⟨0, Nat.zero_le _, rfl, Below.refl _ _⟩
        case round =>
          obtain ⟨q, hq, rfl, hbr⟩ := hrel
          by_cases hltq : q < len0
          · obtain ⟨b0, off0, c0, rfl, hc0, hbl0, hcell0⟩ := (hS0.below hbr).nth q hltq
            have hcb : ∀ c : UInt8, (fillL l K 0)[q]? = some c → wr.cell? ⟨w.heap.size, q, none⟩ = some (.int .u8 (c.toNat : Int)) := fun c hc => by
              rw [hbr.cell (p := ⟨w.heap.size, q, none⟩) hgl]
              exact hR2.cells q _ (by rw [bytesV, List.getElem?_map, hc]; rfl)
            by_cases hin : K ≤ q ∧ q < K + 0
            · exfalso; omega
            · have hcc := hcb c0 (by rw [fill_out (by omega) (by have := unhide HL; omega) (by have := unhide HL; omega)]; exact hc0)
              clear hcb hc0
              by_cases hin1 : K ≤ q
              · have hin2 : ¬ q < K + 0 := fun h => hin ⟨hin1, h⟩
                have hd2 : decide ((q : Int) < (K : Int)) = false := by simp; omega
                clear hin
                go_wp2_with fail
                go_quiet (fail)
                go_wp2
                go_roundw
                case rel => exact ⟨q + 1, by omega, by go_num, below_drewN hbr _⟩
                case measure => simp [intOf]; omega
              · have hd1 : decide ((K : Int) ≤ (q : Int)) = false := by simp; omega
                clear hin
                go_wp2_with fail
                go_quiet (fail)
                go_wp2
                go_roundw
                case rel => exact ⟨q + 1, by omega, by go_num, below_drewN hbr _⟩
                case measure => simp [intOf]; omega
          · have HB := hide (hbx2.trans (hbr.mono hbx2.size))
            go_wp2
            go_ret
            exact ⟨rfl, unhide HB⟩

theorem cSpare_walk (a0 : Option Addr) (len0 cap0 : Nat) (z0 : List Int) (a1 a2 : Int) (w : World) (w0 : Nums .u8 w a0 len0 cap0 z0) (w1 : (Lit.int .u16 a1).wf = true) (w2 : (Lit.int .i64 a2).wf = true) :
    Calls Ydjm.prog 10 #[.slice a0 len0 cap0, .int .u16 a1, .int .i64 a2] w fun e w' => e = .returned (.bool true) ∧ Below w.heap.size w w' := by
  obtain ⟨h1, h2⟩ := bounds_i64 w2
  obtain ⟨h3, h4⟩ := bounds_u16 w1
  obtain ⟨l, hl⟩ := bytes_of_nums w0
  exact cSpare_core a0 len0 cap0 l a1 a2 w hl h3 h4 h1 h2
end Go.Proofs.Ymbrdj
