import Derived.Test.YmbrdjAFlat
set_option linter.unusedSimpArgs false
set_option linter.unusedVariables false
namespace Go.Proofs.Ymbrdj
open Go.RowKit

theorem take_snoc_get {α : Type} {l : List α} {k : Nat} {x : α} (h : l[k]? = some x) : l.take (k + 1) = l.take k ++ [x] := by
  rw [List.take_add_one, h]; rfl

theorem owns_some {w : World} {B : Nat} {a : Option Addr} {N cap : Nat} {xs : List Value} (h : w.ownsRow B 9 1 (.slice a N cap) N xs) (hp : 0 < N) : ∃ g, a = some ⟨g, 0, none⟩ ∧ B ≤ g := by
  rcases h.2 with ⟨h', _⟩ | ⟨g, cap', cur, h', hb, _⟩
  · simp at h'; omega
  · simp at h'
    exact ⟨g, h'.1, hb⟩

set_option maxHeartbeats 6000000 in
theorem aFresh_walk (a0 : Option Addr) (len0 cap0 : Nat) (z0 : List (List ByteArray)) (w : World) (w0 : Strss w a0 len0 cap0 z0) :
    Calls Ydjm.prog 5 #[.slice a0 len0 cap0] w fun e w' => e = .returned (.bool true) ∧ Below w.heap.size w w' := by
  obtain ⟨i0, hi, hz0, hz1, hz2⟩ := info_parts Ydjm.info9
  have hle := w0.le
  have hmx := w0.max
  have hl := hide w0.hlen
  unfold maxLen at hmx
  by_cases hbig : 1024 < len0
  · go_enter Ydjm.func5, Ydjm.ntmps5
    go_wp2
    go_ret
    exact ⟨rfl, Below.refl _ _⟩
  go_enter Ydjm.func5, Ydjm.ntmps5
  go_wp2
  go_loop [18] (fun i => ∃ (k : Nat), k ≤ len0 ∧ i = .int .i64 k ∧ Hid (∀ j (hj : j < z0.length), j < k → z0[j].length ≤ 1024)) (fun i => len0 - (intOf i).toNat)
  case atStart => exact ⟨0, Nat.zero_le _, rfl, fun j hj h => absurd h (Nat.not_lt_zero _)⟩
  case round =>
    obtain ⟨k, hk, rfl, HB⟩ := hrel
    by_cases hlt : k < len0
    · obtain ⟨b, off, a', len', cap', ss, rfl, hss, hbl, hc, hS⟩ := w0.nth k hlt
      have hl1 := hide hS.hlen
      have hl2 := hS.le
      have hl3 := hS.max
      unfold maxLen at hl3
      have HS := hide hss
      clear hss hS
      by_cases hr : 1024 < len'
      · go_wp2
        go_ret
        exact ⟨rfl, Below.refl _ _⟩
      · go_wp2
        go_round
        case rel =>
          refine ⟨k + 1, by omega, by go_num, fun j hj h => ?_⟩
          by_cases hjk : j < k
          · exact unhide HB j hj hjk
          · obtain rfl : j = k := by omega
            have h1 := unhide HS
            rw [List.getElem?_eq_getElem hj] at h1
            simp at h1
            have h2 := unhide hl1
            rw [h1]; omega
        case measure => simp [intOf]; omega
    · have few : Few z0 := few_of fun j hj => unhide HB j hj (by have := unhide hl; omega)
      have HF := hide few
      clear few HB
      have hN0 : z0.flatten.length ≤ 1048576 := by
        refine Nat.le_trans (flat_len _ 1024 (unhide HF)) ?_
        have := unhide hl
        exact Nat.le_trans (Nat.mul_le_mul_right _ (show z0.length ≤ 1024 by omega)) (by omega)
      have hT : ∀ i, ((z0.take i).flatten).length ≤ z0.flatten.length := flat_take_len z0
      generalize hN : z0.flatten.length = N at *
      have HT := hide hT
      have HN := hide hN
      clear hT hN
      go_wp2
      go_loopw [5, 6] (fun v i wr => ∃ (i' : Nat), i' ≤ len0 ∧ i = .int .i64 i' ∧ Own wr w.heap.size 9 v ((z0.take i').flatten.map Value.string) ∧ Below w.heap.size w wr) (fun _ i _ => len0 - (intOf i).toNat)
      case atStart => exact ⟨0, Nat.zero_le _, rfl, Own.nil _ _ _, Below.refl _ _⟩
      case round =>
        obtain ⟨i', hi', rfl, hown, hbr⟩ := hrel
        by_cases hlt2 : i' < len0
        · obtain ⟨b, off, a', len', cap', ss, rfl, hss, hbl, hc, hS⟩ := w0.nth i' hlt2
          have HSS := hide hss
          have hl1 := hide hS.hlen
          have hl2 := hS.le
          have hl3 := hS.max
          unfold maxLen at hl3
          have HSX := hide hS
          have hl4 : len' ≤ 1024 := by have := unhide HF ss (List.mem_of_getElem? hss); have := unhide hl1; omega
          clear hS hss
          go_wp2
          go_loopw [5, 7] (fun v j wr => ∃ (j' : Nat), j' ≤ len' ∧ j = .int .i64 j' ∧ Own wr w.heap.size 9 v (((z0.take i').flatten ++ ss.take j').map Value.string) ∧ Below w.heap.size w wr) (fun _ j _ => len' - (intOf j).toNat)
          case atStart => exact ⟨0, Nat.zero_le _, rfl, by simpa using hown, hbr⟩
          case round =>
            obtain ⟨j', hj', rfl, hown2, hbx⟩ := hrel
            have hc' : wr.cell? ⟨b, off + i', none⟩ = some (.slice a' len' cap') := (hbx.cell (p := ⟨b, off + i', none⟩) hbl).trans hc
            by_cases hlt3 : j' < len'
            · obtain ⟨b3, off3, s3, rfl, hs3, hz3, hbl3, hc3⟩ := ((unhide HSX).below hbx).nth j' hlt3
              have HS3 := hide hs3
              have hxl : (((z0.take i').flatten ++ ss.take j').map Value.string).length ≤ N + 1024 := by
                rw [List.length_map, List.length_append, List.length_take]
                have h1 := unhide HT i'
                omega
              have hBr := hbx.size
              clear hs3 hz3
              go_wp2_with (at_builtin; go_must (refine wpList_append1 rfl _ _ 23 rfl w.heap.size 9 i0 (.string ByteArray.empty) 16 Ydjm.underlying23 hi hz0 hz1 hz2 rfl u5 (((z0.take i').flatten ++ ss.take j').map Value.string) rfl wr (.string s3) rfl hown2 hBr rfl (by omega) (by unfold maxLen; omega) ?_); intro v' w' hu' hg' hat' hne')
              have R1 : Own w' w.heap.size 9 v' (((z0.take i').flatten ++ ss.take (j' + 1)).map Value.string) := by
                rw [take_snoc_get (unhide HS3), ← List.append_assoc, List.map_append]; exact hu'
              have R2 := Below.of_grown hbx hown2 hBr hg'
              clear hu' hg' hat' hne' hown2 hbx hxl
              go_wp2
              go_roundw
              case rel => exact ⟨j' + 1, by omega, by go_num, R1, R2⟩
              case measure => simp [intOf]; omega
            · have R1 : Own wr w.heap.size 9 u5 ((z0.take (i' + 1)).flatten.map Value.string) := by
                rw [List.take_of_length_le (l := ss) (by have := unhide hl1; omega)] at hown2
                rw [flat_succ (unhide HSS)]; exact hown2
              clear hown2
              go_wp2
              go_roundw
              case rel => exact ⟨i' + 1, by omega, by go_num, R1, hbx⟩
              case measure => simp [intOf]; omega
        · rw [List.take_of_length_le (by have := unhide hl; omega)] at hown
          obtain ⟨a5, cap5, rfl, hS5, -⟩ := Own.strs hown w0.szs
          clear hown
          generalize wr = X at *
          go_wp2_with fail
          refine (unwrap_any _ _ _ z0 _ (w0.below hbr) (by omega) (fun ss h => Nat.le_trans (unhide HF ss h) (by omega))).mono ?_
          rintro e x2 ⟨v8, rfl, hown8, hb8, -⟩
          obtain ⟨a8, cap8, rfl, -⟩ := Own.strs hown8 w0.szs
          have hown8' : x2.ownsRow X.heap.size 9 1 (.slice a8 N cap8) N (z0.flatten.map Value.string) := by
            have h1 := hown8
            unfold Own at h1
            rw [List.length_map, unhide HN] at h1
            exact h1
          rw [unhide HN] at hS5 ⊢
          clear hown8
          have hne : ((N : Int) != (N : Int)) = false := by simp
          go_wp2
          go_loopw [9] (fun i wx => ∃ (q : Nat) (xs : List Value), q ≤ N ∧ i = .int .i64 q ∧ wx.ownsRow X.heap.size 9 1 (.slice a8 N cap8) N xs ∧ Below X.heap.size X wx) (fun i _ => N - (intOf i).toNat)
          case atStart => exact ⟨0, _, Nat.zero_le _, rfl, hown8', hb8⟩
          case round =>
            obtain ⟨q, xs, hq, rfl, hrow, hbx⟩ := hrel
            by_cases hltq : q < N
            · obtain ⟨g, rfl, hBg⟩ := owns_some hrow (by omega)
              have hcq := hrow.cellAt q (by omega)
              have hfq := hrow.frozenAt q
              have hst := hrow.stored q (.string ⟨#[35]⟩)
              have hxl : q < xs.length := by have := hrow.1; omega
              rw [List.getElem?_eq_getElem hxl] at hcq
              generalize xs[q] = u at hcq
              have R1 := hst.1
              have R2 := Below.grown hbx hst.2 hbx.size (fun k hk => by simp at hk; omega)
              clear hst hrow hxl
              have HR1 := hide R1
              have HR2 := hide R2
              clear R1 R2
              go_wp2
              go_roundw
              case rel => exact ⟨q + 1, _, by omega, by go_num, unhide HR1, unhide HR2⟩
              case measure => simp [intOf]; omega
            · have hS5' := hS5.below hbx
              have hbwx := hbr.trans (hbx.mono hbr.size)
              clear hrow hS5 hb8 hown8' hbx
              have W0 := w0.below hbwx
              generalize wr = Y at *
              go_wp2
              go_loopw [10, 11] (fun kk i wy => ∃ (i' K : Nat), i' ≤ len0 ∧ i = .int .i64 i' ∧ kk = .int .i64 K ∧ K ≤ N ∧ Hid (K = ((z0.take i').flatten).length) ∧ Below Y.heap.size Y wy) (fun _ i _ => len0 - (intOf i).toNat)
              case atStart => exact ⟨0, 0, Nat.zero_le _, rfl, rfl, Nat.zero_le _, rfl, Below.refl _ _⟩
              case round =>
                obtain ⟨i2, K, hi2, rfl, rfl, hKN, HK, hbr2⟩ := hrel
                by_cases hlt2 : i2 < len0
                · obtain ⟨b, off, a', len', cap', ss, rfl, hss, hbl, hc, hS⟩ := W0.nth i2 hlt2
                  have HSS := hide hss
                  clear hss
                  have hl1 := hide hS.hlen
                  have hl2 := hS.le
                  have hl3 := hS.max
                  unfold maxLen at hl3
                  have HSX := hide hS
                  clear hS
                  go_wp2
                  go_loopw [10, 12] (fun kk j wz => ∃ (j' M : Nat), j' ≤ len' ∧ j = .int .i64 j' ∧ kk = .int .i64 M ∧ M ≤ N ∧ Hid (M = K + j') ∧ Below Y.heap.size Y wz) (fun _ j _ => len' - (intOf j).toNat)
                  case atStart => exact ⟨0, K, Nat.zero_le _, rfl, rfl, by omega, rfl, hbr2⟩
                  case round =>
                    obtain ⟨j', M, hj', rfl, rfl, hKj, HMK, hbx⟩ := hrel
                    have hc' : wr.cell? ⟨b, off + i2, none⟩ = some (.slice a' len' cap') := (hbx.cell (p := ⟨b, off + i2, none⟩) hbl).trans hc
                    by_cases hlt3 : j' < len'
                    · obtain ⟨b3, off3, s3, rfl, hs3, hz3, hbl3, hc3⟩ := ((unhide HSX).below hbx).nth j' hlt3
                      have hfl := flat_at (unhide HSS) hs3
                      rw [← unhide HK, ← unhide HMK] at hfl
                      have hKN2 : M < N := by have h1 := lt_of_get' hfl; have h2 := unhide HN; omega
                      obtain ⟨b4, off4, s4, rfl, hs4, hz4, hbl4, hc4⟩ := (hS5'.below hbx).nth M hKN2
                      obtain rfl : s4 = s3 := by rw [hfl] at hs4; simpa using hs4.symm
                      have hi1 : (0 : Int) ≤ (M : Int) := by omega
                      have hi2 : (M : Int) < (N : Int) := by omega
                      clear hs3 hs4 hfl hz3 hz4
                      go_wp2_with fail
                      go_quiet (fail)
                      go_wp2
                      go_roundw
                      case rel => exact ⟨j' + 1, M + 1, by omega, by go_num, by go_num, by omega, by have := unhide HMK; show _ = _; omega, below_drewN hbx _⟩
                      case measure => simp [intOf]; omega
                    · go_wp2
                      go_roundw
                      case rel =>
                        refine ⟨i2 + 1, M, by omega, by go_num, rfl, hKj, ?_, hbx⟩
                        have h1 := unhide HMK
                        have h2 := unhide HK
                        have h3 := unhide hl1
                        show _ = _
                        rw [flat_succ (unhide HSS), List.length_append]; omega
                      case measure => simp [intOf]; omega
                · have HBW := hide (hbwx.trans (hbr2.mono hbwx.size))
                  go_wp2
                  go_ret
                  exact ⟨rfl, unhide HBW⟩
end Go.Proofs.Ymbrdj
