import Derived.Test.YmbrdjUnwrap
import Derived.Deep.QuietTactic
import Derived.BigQuiet
set_option linter.unusedSimpArgs false
set_option linter.unusedVariables false
namespace Go.Proofs.Ymbrdj
open Go.RowKit

theorem lt_of_get' {α : Type} {l : List α} {k : Nat} {x : α} (h : l[k]? = some x) : k < l.length := (List.getElem?_eq_some_iff.1 h).1

theorem flat_at {α : Type} {L : List (List α)} {i j : Nat} {ss : List α} {x : α} (h : L[i]? = some ss) (hj : ss[j]? = some x) : L.flatten[(L.take i).flatten.length + j]? = some x := by
  obtain ⟨hi, rfl⟩ := List.getElem?_eq_some_iff.1 h
  have hjl : j < L[i].length := (List.getElem?_eq_some_iff.1 hj).1
  have e : L = L.take i ++ L[i] :: L.drop (i + 1) := by rw [List.getElem_cons_drop, List.take_append_drop]
  have e2 : L.flatten = (L.take i).flatten ++ (L[i] ++ (L.drop (i + 1)).flatten) := by
    conv => lhs; rw [e]
    rw [List.flatten_append, List.flatten_cons]
  rw [e2, List.getElem?_append_right (by omega), Nat.add_sub_cancel_left, List.getElem?_append_left hjl]
  exact hj

theorem Strss.szs {w : World} {a : Option Addr} {len cap : Nat} {L : List (List ByteArray)} (h : Strss w a len cap L) : ∀ s ∈ L.flatten, s.size ≤ maxLen := by
  intro s hs
  obtain ⟨ss, hss, hs⟩ := List.mem_flatten.1 hs
  obtain ⟨k, hk, rfl⟩ := List.getElem_of_mem hss
  obtain ⟨b, off, a', len', cap', _, _, _, hS⟩ := h.rows k hk
  exact hS.sz s hs

theorem flat_take_len {α : Type} (L : List (List α)) (i : Nat) : ((L.take i).flatten).length ≤ L.flatten.length := by
  have h : (L.take i).flatten ++ (L.drop i).flatten = L.flatten := by rw [← List.flatten_append, List.take_append_drop]
  rw [← h, List.length_append]; omega

/-- The lines are few and short. -/
def Few (L : List (List ByteArray)) : Prop := ∀ ss ∈ L, ss.length ≤ 1024

theorem few_of {L : List (List ByteArray)} (h : ∀ j (hj : j < L.length), L[j].length ≤ 1024) : Few L := fun ss hs => by
  obtain ⟨j, hj, rfl⟩ := List.getElem_of_mem hs
  exact h j hj

set_option maxHeartbeats 1600000 in
theorem aFlat_walk (a0 : Option Addr) (len0 cap0 : Nat) (z0 : List (List ByteArray)) (w : World) (w0 : Strss w a0 len0 cap0 z0) :
    Calls Ydjm.prog 3 #[.slice a0 len0 cap0] w fun e w' => e = .returned (.bool true) ∧ Below w.heap.size w w' := by
  have hle := w0.le
  have hmx := w0.max
  have hl := hide w0.hlen
  unfold maxLen at hmx
  by_cases hbig : 1024 < len0
  · go_enter Ydjm.func3, Ydjm.ntmps3
    go_wp2
    go_ret
    exact ⟨rfl, Below.refl _ _⟩
  go_enter Ydjm.func3, Ydjm.ntmps3
  go_wp2
  go_loop [14] (fun i => ∃ (k : Nat), k ≤ len0 ∧ i = .int .i64 k ∧ Hid (∀ j (hj : j < z0.length), j < k → z0[j].length ≤ 1024)) (fun i => len0 - (intOf i).toNat)
  case atStart => exact ⟨0, Nat.zero_le _, rfl, fun j hj h => absurd h (Nat.not_lt_zero _)⟩
  case round =>
    obtain ⟨k, hk, rfl, HB⟩ := hrel
    by_cases hlt : k < len0
    · obtain ⟨b, off, a', len', cap', ss, rfl, hss, hbl, hc, hS⟩ := w0.nth k hlt
      have hl1 := hide hS.hlen
      have hl2 := hS.le
      have hl3 := hS.max
      unfold maxLen at hl3
      have HS := hide hss
      clear hss hS
      by_cases hr : 1024 < len'
      · go_wp2
        go_ret
        exact ⟨rfl, Below.refl _ _⟩
      · go_wp2
        go_round
        case rel =>
          refine ⟨k + 1, by omega, by go_num, fun j hj h => ?_⟩
          by_cases hjk : j < k
          · exact unhide HB j hj hjk
          · obtain rfl : j = k := by omega
            have h1 := unhide HS
            rw [List.getElem?_eq_getElem hj] at h1
            simp at h1
            have h2 := unhide hl1
            rw [h1]; omega
        case measure => simp [intOf]; omega
    · have few : Few z0 := few_of fun j hj => unhide HB j hj (by have := unhide hl; omega)
      have HF := hide few
      clear few HB
      go_wp2_with fail
      refine (unwrap_any _ _ _ z0 _ w0 (by omega) (fun ss h => Nat.le_trans (unhide HF ss h) (by omega))).mono ?_
      rintro e w1 ⟨v, rfl, hown, hb1, hnil⟩
      obtain ⟨a2, cap2, rfl, hS2, hnn⟩ := Own.strs hown w0.szs
      have HNN := hide (hnn.trans hnil)
      clear hown hnil hnn
      have hN0 : z0.flatten.length ≤ 1048576 := by
        refine Nat.le_trans (flat_len _ 1024 (unhide HF)) ?_
        have := unhide hl
        exact Nat.le_trans (Nat.mul_le_mul_right _ (show z0.length ≤ 1024 by omega)) (by omega)
      have hT : ∀ i, ((z0.take i).flatten).length ≤ z0.flatten.length := flat_take_len z0
      generalize hN : z0.flatten.length = N at *
      have HT := hide hT
      have HN := hide hN
      clear hT hN
      go_wp2
      go_loopw [6, 7] (fun kk i wr => ∃ (i' K : Nat), i' ≤ len0 ∧ i = .int .i64 i' ∧ kk = .int .i64 K ∧ K ≤ N ∧ Hid (K = ((z0.take i').flatten).length) ∧ Below w1.heap.size w1 wr) (fun _ i _ => len0 - (intOf i).toNat)
      case atStart => exact ⟨0, 0, Nat.zero_le _, rfl, rfl, Nat.zero_le _, rfl, Below.refl _ _⟩
      case round =>
        obtain ⟨i', K, hi', rfl, rfl, hKN, HK, hbr⟩ := hrel
        by_cases hlt2 : i' < len0
        · obtain ⟨b, off, a', len', cap', ss, rfl, hss, hbl, hc, hS⟩ := w0.nth i' hlt2
          have HSS := hide hss
          clear hss
          have hl1 := hide hS.hlen
          have hl2 := hS.le
          have hl3 := hS.max
          unfold maxLen at hl3
          have HSX := hide hS
          clear hS
          go_wp2
          go_loopw [6, 8] (fun kk j wx => ∃ (j' M : Nat), j' ≤ len' ∧ j = .int .i64 j' ∧ kk = .int .i64 M ∧ M ≤ N ∧ Hid (M = K + j') ∧ Below w1.heap.size w1 wx) (fun _ j _ => len' - (intOf j).toNat)
          case atStart => exact ⟨0, K, Nat.zero_le _, rfl, rfl, by omega, rfl, hbr⟩
          case round =>
            obtain ⟨j', M, hj', rfl, rfl, hKj, HMK, hbx⟩ := hrel
            have hbw := hb1.trans (hbx.mono hb1.size)
            have hc' : wr.cell? ⟨b, off + i', none⟩ = some (.slice a' len' cap') := (hbw.cell (p := ⟨b, off + i', none⟩) hbl).trans hc
            by_cases hlt3 : j' < len'
            · obtain ⟨b3, off3, s3, rfl, hs3, hz3, hbl3, hc3⟩ := ((unhide HSX).below hbw).nth j' hlt3
              have hfl := flat_at (unhide HSS) hs3
              rw [← unhide HK, ← unhide HMK] at hfl
              have hKN2 : M < N := by have h1 := lt_of_get' hfl; have h2 := unhide HN; omega
              obtain ⟨b4, off4, s4, rfl, hs4, hz4, hbl4, hc4⟩ := (hS2.below hbx).nth M hKN2
              obtain rfl : s4 = s3 := by rw [hfl] at hs4; simpa using hs4.symm
              have hd : decide ((N : Int) ≤ (M : Int)) = false := by simp; omega
              have hi1 : (0 : Int) ≤ (M : Int) := by omega
              have hi2 : (M : Int) < (N : Int) := by omega
              clear hs3 hs4 hfl hz3 hz4
              go_wp2_with fail
              go_quiet (fail)
              go_wp2
              go_roundw
              case rel => exact ⟨j' + 1, M + 1, by omega, by go_num, by go_num, by omega, by have := unhide HMK; show _ = _; omega, below_drewN hbx _⟩
              case measure => simp [intOf]; omega
            · go_wp2
              go_roundw
              case rel =>
                refine ⟨i' + 1, M, by omega, by go_num, rfl, hKj, ?_, hbx⟩
                have h1 := unhide HMK
                have h2 := unhide HK
                have h3 := unhide hl1
                show _ = _
                rw [flat_succ (unhide HSS), List.length_append]; omega
              case measure => simp [intOf]; omega
        · have hKe : K = N := by
            have h1 := unhide HK
            have h2 := unhide hl
            rw [List.take_of_length_le (by omega)] at h1
            rw [h1]; exact unhide HN
          have HE : Hid (a2.isNone = ((K : Int) == 0)) := by
            have h1 := unhide HNN
            have h2 := unhide HN
            show _ = _
            rw [← List.length_eq_zero_iff, h2, ← hKe] at h1
            cases a2 with
            | none => have := h1.1 rfl; subst this; rfl
            | some a => have : K ≠ 0 := fun h => by have := h1.2 h; cases this
                        simp; omega
          have HKE := hide hKe
          clear hKe
          have hbw := hb1.trans (hbr.mono hb1.size)
          have HBW := hide hbw
          have hq : ((K : Int) == (N : Int)) = true := by simp; have := unhide HKE; omega
          clear hbw
          have hnl := Go.Lib.run_eql_slice_nil (P := Ydjm.prog) wr 23 9 a2 N cap2 0 0 Ydjm.underlying23
          go_wp2
          go_ret
          exact ⟨ret_bool (by rw [unhide HE]; simp), unhide HBW⟩
end Go.Proofs.Ymbrdj
