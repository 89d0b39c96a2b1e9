import Derived.Test.YmbrdkHWord
import Derived.Test.YmbrdkGFuncs
import Derived.Deep.QuietTactic
import Derived.BigQuiet
set_option linter.unusedSimpArgs false
set_option linter.unusedVariables false
namespace Go.Proofs.Ymbrdk
open Go.RowKit

theorem textsF_inj : ∀ {a b : List ByteArray}, textsF a = textsF b → a = b
  | [], [], _ => rfl
  | [], y :: b, h => by simp [textsF] at h
  | x :: a, [], h => by simp [textsF] at h
  | x :: a, y :: b, h => by
    have h1 : x.data.toList = y.data.toList ∧ textsF a = textsF b := by simpa [textsF] using h
    rw [WideShapes.bytes_inj h1.1, textsF_inj h1.2]

theorem Nums.nth {k : IntKind} {w : World} {a : Option Addr} {len cap : Nat} {zs : List Int} (h : Nums k w a len cap zs) (i : Nat) (hi : i < len) :
    ∃ b off z, a = some ⟨b, off, none⟩ ∧ (Lit.int k z).wf = true ∧ b < w.heap.size ∧ w.cell? ⟨b, off + i, none⟩ = some (.int k z) := by
  have hl := h.hlen
  have hk' : i < zs.length := by omega
  obtain ⟨b, off, ha, hlt, hc⟩ := h.cells i (by simpa using hk')
  exact ⟨b, off, zs[i], ha, h.wf _ (List.getElem_mem hk'), hlt, by simpa using hc⟩

/-- The state of the loop over the words. -/
structure HSt (ss : List ByteArray) (k : Nat) (t : List UInt8) (ws : List ByteArray) : Prop where
  len : ws.length = k
  size : t.length ≤ 4 * k + szs (ss.take k)
  pend : Pend t (textsF ws)
  shut : k = 0 → Shut t (textsF ws)

theorem HSt.step {ss : List ByteArray} {q n : Nat} {tx tx' : List UInt8} {ws : List ByteArray} {s r : ByteArray} (h : HSt ss q tx ws) (hs : ss[q]? = some s) (hl : tx'.length ≤ tx.length + n) (hn : n ≤ 3)
    (hsh : Shut tx' (textsF ws)) (hno : NoSp r.data.toList) (hne : r.data.toList ≠ []) (hrs : r.size ≤ s.size + 1) : HSt ss (q + 1) (tx' ++ r.data.toList) (ws ++ [r]) := by
  have h1 := h.size
  have h2 := szs_take_succ hs
  have h3 : r.data.toList.length = r.size := by simp
  refine ⟨by simp [h.len], by rw [List.length_append]; omega, ?_, fun h => absurd h (by omega)⟩
  rw [textsF_append]
  exact hsh.word hno hne

theorem inner0 {ss : List ByteArray} {q : Nat} {tx : List UInt8} {ws : List ByteArray} (h : HSt ss q tx ws) : tx.length ≤ tx.length + 0 ∧ Pend tx (textsF ws) ∧ (Shut tx (textsF ws) ∨ (0 < q ∧ 0 = 0)) := by
  refine ⟨Nat.le_refl _, h.pend, ?_⟩
  rcases Nat.eq_zero_or_pos q with h0 | h0
  · exact .inl (h.shut h0)
  · exact .inr ⟨h0, rfl⟩
theorem inner1 {q n : Nat} {tx tx' : List UInt8} {W : List (List UInt8)} (h : tx'.length ≤ tx.length + n ∧ Pend tx' W ∧ (Shut tx' W ∨ (0 < q ∧ n = 0))) (hq : q = 0 ∨ 0 < n) : Shut tx' W := by
  rcases h.2.2 with h | h
  · exact h
  · omega
theorem inner2 {q j : Nat} {tx tx' : List UInt8} {W : List (List UInt8)} {c : UInt8} (h : tx'.length ≤ tx.length + j ∧ Pend tx' W ∧ (Shut tx' W ∨ (0 < q ∧ j = 0))) (hc : isSp c = true) :
    (tx' ++ [c]).length ≤ tx.length + (j + 1) ∧ Pend (tx' ++ [c]) W ∧ (Shut (tx' ++ [c]) W ∨ (0 < q ∧ j + 1 = 0)) := by
  have h1 := h.2.1.sep hc
  have h2 := h.1
  exact ⟨by simp; omega, h1.pend, .inl h1⟩

theorem inner3 {m j : Nat} {tx' : List UInt8} {W : List (List UInt8)} {c : UInt8} (h : tx'.length ≤ m + j ∧ Pend tx' W) (hc : isSp c = true) :
    (tx' ++ [c]).length ≤ m + (j + 1) ∧ Pend (tx' ++ [c]) W := by
  have h1 := h.2.sep hc
  have h2 := h.1
  exact ⟨by simp; omega, h1.pend⟩

set_option maxRecDepth 8000 in
set_option maxHeartbeats 8000000 in
theorem hRoundTrip_walk (a0 : Option Addr) (len0 cap0 : Nat) (z0 : List ByteArray) (a1 : Option Addr) (len1 cap1 : Nat) (z1 : List Int) (a2 : Int) (w : World) (w0 : Strs w a0 len0 cap0 z0) (w1 : Nums .u8 w a1 len1 cap1 z1) (w2 : (Lit.int .u8 a2).wf = true) :
    Calls Ydkm.prog 13 #[.slice a0 len0 cap0, .slice a1 len1 cap1, .int .u8 a2] w fun e w' => e = .returned (.bool true) ∧ Below w.heap.size w w' := by
  obtain ⟨i9, hi9, hz90, hz91, hz92⟩ := info_parts info9f
  obtain ⟨i5, hi5, hz50, hz51, hz52⟩ := info_parts info5h
  obtain ⟨hc1, hc2⟩ := bounds_u8 w2
  clear w2
  have hle0 := w0.le
  have hmx0 := w0.max
  have hle1 := w1.le
  have hmx1 := w1.max
  unfold maxLen at hmx0 hmx1
  have hl := hide w0.hlen
  by_cases hbig : 512 < len0
  · go_enter Ydkm.func13, Ydkm.ntmps13
    go_wp2
    go_ret
    exact ⟨rfl, Below.refl _ _⟩
  go_enter Ydkm.func13, Ydkm.ntmps13
  go_wp2
  go_loop [7, 8] (fun t i => ∃ (k m : Nat), k ≤ len0 ∧ i = .int .i64 k ∧ t = .int .i64 m ∧ m ≤ 4096 ∧ Hid (m = szs (z0.take k))) (fun _ i => len0 - (intOf i).toNat)
  case atStart => exact ⟨0, 0, Nat.zero_le _, rfl, rfl, by omega, by simp [szs, Hid]⟩
  case round =>
    obtain ⟨k, m, hk, rfl, rfl, hm, HM⟩ := hrel
    by_cases hlt : k < len0
    · obtain ⟨b, off, s, rfl, hss, hsz, hb, hc⟩ := w0.nth k hlt
      have HJ := hide (szs_take_succ hss)
      clear hss
      unfold maxLen at hsz
      by_cases hsr : 4096 < s.size
      · go_wp2
        go_ret
        exact ⟨rfl, Below.refl _ _⟩
      · by_cases hsm : 4096 < m + s.size
        · go_wp2
          go_ret
          exact ⟨rfl, Below.refl _ _⟩
        · go_wp2
          go_round
          case rel => exact ⟨k + 1, m + s.size, by omega, by go_num, by go_num, by omega, by have h3 := unhide HJ; have h4 := unhide HM; show _ = _; omega⟩
          case measure => simp [intOf]; omega
    · have hsz : szs z0 ≤ 4096 := by
        have h1 := unhide HM
        rw [List.take_of_length_le (by have := unhide hl; omega)] at h1
        omega
      clear HM
      go_wp2
      go_loopw [9, 10, 11] (fun v t i wr => ∃ (q : Nat) (ws : List ByteArray) (tx : List UInt8), q ≤ len0 ∧ i = .int .i64 q ∧ Own wr w.heap.size 9 v (ws.map Value.string) ∧ Buf wr w.heap.size t tx ∧ Hid (HSt z0 q tx ws) ∧ Hid (∀ s ∈ ws, s.size ≤ 4097) ∧ Below w.heap.size w wr) (fun _ _ i _ => len0 - (intOf i).toNat)
      case atStart => exact ⟨0, [], [], Nat.zero_le _, rfl, Own.nil _ _ _, Buf.nil _ _, ⟨rfl, by simp, Shut.nil.pend, fun _ => Shut.nil⟩, by simp [Hid], Below.refl _ _⟩
      case round =>
        obtain ⟨q, ws, tx, hq, rfl, hown, hbuf, HST, HZ, hbr⟩ := hrel
        by_cases hltq : q < len0
        · obtain ⟨b, off, s, rfl, hss, -, hbl, hc⟩ := w0.nth q hltq
          have HSS := hide hss
          clear hss
          have hsz1 : s.size ≤ 4096 := by
            have h1 := szs_take_succ (unhide HSS)
            have h2 := szs_take_le z0 (q + 1)
            omega
          generalize wr = X at *
          by_cases hqg : q < len1
          · obtain ⟨bg, offg, zg, rfl, hzg, hbg, hcg0⟩ := w1.nth q hqg
            have hcg := (hbr.cell (p := ⟨bg, offg + q, none⟩) hbg).trans hcg0
            obtain ⟨g1, g2⟩ := bounds_u8 hzg
            obtain ⟨g, rfl⟩ : ∃ g : Nat, zg = g := ⟨zg.toNat, by omega⟩
            clear hzg
            obtain ⟨n, hn, hn3⟩ : ∃ n : Nat, (g : Int) / 4 % 3 = n ∧ n ≤ 2 := ⟨((g : Int) / 4 % 3).toNat, by omega, by omega⟩
            have HN := hide hn
            clear hcg0 hn
            by_cases hq0 : 0 < q
            · have hq0b : decide (0 < q) = true := by simp [hq0]
              go_wp2
              have hn1 : (g : Int) / 4 % 3 + 1 = ((n + 1 : Nat) : Int) := by have := unhide HN; omega
              rw [hn1]
              have HQ : Hid (q = 0 ∨ 0 < n + 1) := .inr (by omega)
              clear HN hn1
              generalize hnn : n + 1 = nn at *
              have hnn3 : nn ≤ 3 := by omega
              clear hnn hn3
              go_loopw [10, 14] (fun t j wr => ∃ (jj : Nat) (tx' : List UInt8), jj ≤ nn ∧ j = .int .i64 jj ∧ Buf wr w.heap.size t tx' ∧ Own wr w.heap.size 9 u9 (ws.map Value.string) ∧ Hid (tx'.length ≤ tx.length + jj ∧ Pend tx' (textsF ws) ∧ (Shut tx' (textsF ws) ∨ (0 < q ∧ jj = 0))) ∧ Below w.heap.size w wr) (fun _ j _ => nn - (intOf j).toNat)
              case atStart => exact ⟨0, tx, Nat.zero_le _, rfl, hbuf, hown, inner0 (unhide HST), hbr⟩
              case round =>
                obtain ⟨jj, tx', hj, rfl, hu, hown2, HI, hbx⟩ := hrel
                have hBr := hbx.size
                have hl1 : (bytesV tx').length ≤ 1048576 := by
                  have h1 := (unhide HST).size
                  have h2 := szs_take_le z0 q
                  have h3 := (unhide HI).1
                  rw [bytesV_length]
                  omega
                by_cases hlt2 : jj < nn
                · have hr : ((g : Int) + (jj : Int)) % 4 = 0 ∨ ((g : Int) + (jj : Int)) % 4 = 1 ∨ ((g : Int) + (jj : Int)) % 4 = 2 ∨ ((g : Int) + (jj : Int)) % 4 = 3 := by omega
                  rcases hr with hr | hr | hr | hr
                  · go_wp2_with (at_builtin; go_must (refine wpList_append1 rfl _ _ 41 rfl w.heap.size 5 i5 (.int .u8 0) 1 Ydkm.underlying41 hi5 hz50 hz51 hz52 rfl u10 _ rfl wr (.int .u8 32) rfl hu hBr rfl (by omega) (by unfold maxLen; omega) ?_); intro v3 w3 hu3 hg3 hat3 hne3)
                    have R1 : Buf w3 w.heap.size v3 (tx' ++ [32]) := by rw [Buf, bytesV_append]; exact hu3
                    have R2 := Below.of_grown hbx hu hBr hg3
                    have R3 := Own.grown hown2 hg3 (Own.apart hown2 hu (by decide))
                    have R4 := hide (inner2 (c := 32) (unhide HI) (by decide))
                    clear hu3 hg3 hat3 hne3 hu hbx hown2 hl1 hr
                    go_wp2
                    go_roundw
                    case rel => exact ⟨jj + 1, _, by omega, by go_num, R1, R3, R4, R2⟩
                    case measure => first | (simp [intOf]; done) | (simp [intOf]; omega)
                  · go_wp2_with (at_builtin; go_must (refine wpList_append1 rfl _ _ 41 rfl w.heap.size 5 i5 (.int .u8 0) 1 Ydkm.underlying41 hi5 hz50 hz51 hz52 rfl u10 _ rfl wr (.int .u8 9) rfl hu hBr rfl (by omega) (by unfold maxLen; omega) ?_); intro v3 w3 hu3 hg3 hat3 hne3)
                    have R1 : Buf w3 w.heap.size v3 (tx' ++ [9]) := by rw [Buf, bytesV_append]; exact hu3
                    have R2 := Below.of_grown hbx hu hBr hg3
                    have R3 := Own.grown hown2 hg3 (Own.apart hown2 hu (by decide))
                    have R4 := hide (inner2 (c := 9) (unhide HI) (by decide))
                    clear hu3 hg3 hat3 hne3 hu hbx hown2 hl1 hr
                    go_wp2
                    go_roundw
                    case rel => exact ⟨jj + 1, _, by omega, by go_num, R1, R3, R4, R2⟩
                    case measure => first | (simp [intOf]; done) | (simp [intOf]; omega)
                  · go_wp2_with (at_builtin; go_must (refine wpList_append1 rfl _ _ 41 rfl w.heap.size 5 i5 (.int .u8 0) 1 Ydkm.underlying41 hi5 hz50 hz51 hz52 rfl u10 _ rfl wr (.int .u8 10) rfl hu hBr rfl (by omega) (by unfold maxLen; omega) ?_); intro v3 w3 hu3 hg3 hat3 hne3)
                    have R1 : Buf w3 w.heap.size v3 (tx' ++ [10]) := by rw [Buf, bytesV_append]; exact hu3
                    have R2 := Below.of_grown hbx hu hBr hg3
                    have R3 := Own.grown hown2 hg3 (Own.apart hown2 hu (by decide))
                    have R4 := hide (inner2 (c := 10) (unhide HI) (by decide))
                    clear hu3 hg3 hat3 hne3 hu hbx hown2 hl1 hr
                    go_wp2
                    go_roundw
                    case rel => exact ⟨jj + 1, _, by omega, by go_num, R1, R3, R4, R2⟩
                    case measure => first | (simp [intOf]; done) | (simp [intOf]; omega)
                  · go_wp2_with (at_builtin; go_must (refine wpList_append1 rfl _ _ 41 rfl w.heap.size 5 i5 (.int .u8 0) 1 Ydkm.underlying41 hi5 hz50 hz51 hz52 rfl u10 _ rfl wr (.int .u8 13) rfl hu hBr rfl (by omega) (by unfold maxLen; omega) ?_); intro v3 w3 hu3 hg3 hat3 hne3)
                    have R1 : Buf w3 w.heap.size v3 (tx' ++ [13]) := by rw [Buf, bytesV_append]; exact hu3
                    have R2 := Below.of_grown hbx hu hBr hg3
                    have R3 := Own.grown hown2 hg3 (Own.apart hown2 hu (by decide))
                    have R4 := hide (inner2 (c := 13) (unhide HI) (by decide))
                    clear hu3 hg3 hat3 hne3 hu hbx hown2 hl1 hr
                    go_wp2
                    go_roundw
                    case rel => exact ⟨jj + 1, _, by omega, by go_num, R1, R3, R4, R2⟩
                    case measure => first | (simp [intOf]; done) | (simp [intOf]; omega)
                · have hjn : jj = nn := by omega
                  subst hjn
                  have hsh : Hid (Shut tx' (textsF ws)) := inner1 (unhide HI) (unhide HQ)
                  have hbx2 := hbx
                  have hc' : wr.cell? ⟨b, off + q, none⟩ = some (.string s) := (hbx.cell (p := ⟨b, off + q, none⟩) hbl).trans hc
                  have hlw : (ws.map Value.string).length ≤ 512 := by rw [List.length_map, (unhide HST).len]; omega
                  have HL := hide (unhide HI).1
                  generalize wr = Y at *
                  go_wp2_with fail
                  refine (hword_any _ _ (by omega)).mono ?_
                  rintro e y1 ⟨r, rfl, HNO, HNE, hrs, hby⟩
                  have O1 := hown2.below hby
                  have O2 := hu.below hby
                  have B1 : Below w.heap.size w y1 := hbx.trans (hby.mono hBr)
                  have hB1 := B1.size
                  have hO3 : Hid (∀ w3, y1.grownBy w3 u9.ownBlock → Own w3 w.heap.size 5 u10 (bytesV tx')) := fun w3 hg => Own.grown O2 hg (Own.apart O2 O1 (by decide))
                  have hB3 : Hid (∀ w3, y1.grownBy w3 u9.ownBlock → w.heap.size ≤ w3.heap.size) := fun w3 hg => Nat.le_trans hB1 hg.size
                  clear hown2 hu hbx hbx2 hby hown hbuf hbr
                  go_wp2_with (first | (at_builtin; refine wpList_append1 rfl (.tmp 84) (.tmp 86) 22 rfl w.heap.size 9 i9 (.string ByteArray.empty) 16 Ydkm.underlying22 hi9 hz90 hz91 hz92 rfl u9 (ws.map Value.string) rfl y1 (.string r) rfl O1 hB1 rfl (by omega) (by unfold maxLen; omega) ?_; intro v3 w3 hu3 hg3 hat3 hne3) | (at_builtin; refine wpList_append_str rfl (.tmp 88) (.tmp 89) 41 9 rfl w.heap.size 5 i5 Ydkm.underlying41 Ydkm.underlying9 hi5 hz50 hz51 hz52 u10 (bytesV tx') rfl w3 (unhide hO3 w3 hg3) (unhide hB3 w3 hg3) r rfl (by omega) ?_; intro v4 w4 hu4 hg4 hn4))
                  have R1 : Own w4 w.heap.size 9 v3 ((ws ++ [r]).map Value.string) := by
                    rw [List.map_append]
                    exact Own.grown hu3 hg4 (Own.apart hu3 (unhide hO3 w3 hg3) (by decide))
                  have R2 : Buf w4 w.heap.size v4 (tx' ++ r.data.toList) := by rw [Buf, bytesV_append]; exact hu4
                  have R3 := Below.of_grown (Below.of_grown B1 O1 hB1 hg3) (unhide hO3 w3 hg3) (unhide hB3 w3 hg3) hg4
                  have R4 := hide ((unhide HST).step (unhide HSS) (unhide HL) (by omega) (unhide hsh) (unhide HNO) (unhide HNE) hrs)
                  have R5 : Hid (∀ s ∈ ws ++ [r], s.size ≤ 4097) := by
                    intro x hx
                    rw [List.mem_append] at hx
                    rcases hx with hx | hx
                    · exact unhide HZ x hx
                    · rw [List.mem_singleton.1 hx]; omega
                  clear hu3 hg3 hat3 hne3 hu4 hg4 hn4 hO3 hB3 B1 O1 O2
                  go_wp2
                  go_roundw
                  case rel => exact ⟨q + 1, _, _, by omega, by go_num, R1, R2, R4, R5, R3⟩
                  case measure => simp [intOf]; omega
            · have hq0b : decide (0 < q) = false := by simp; omega
              go_wp2
              rw [unhide HN]
              have HQ : Hid (q = 0 ∨ 0 < n) := .inl (by omega)
              clear HN
              go_loopw [10, 14] (fun t j wr => ∃ (jj : Nat) (tx' : List UInt8), jj ≤ n ∧ j = .int .i64 jj ∧ Buf wr w.heap.size t tx' ∧ Own wr w.heap.size 9 u9 (ws.map Value.string) ∧ Hid (tx'.length ≤ tx.length + jj ∧ Pend tx' (textsF ws) ∧ (Shut tx' (textsF ws) ∨ (0 < q ∧ jj = 0))) ∧ Below w.heap.size w wr) (fun _ j _ => n - (intOf j).toNat)
              case atStart => exact ⟨0, tx, Nat.zero_le _, rfl, hbuf, hown, inner0 (unhide HST), hbr⟩
              case round =>
                obtain ⟨jj, tx', hj, rfl, hu, hown2, HI, hbx⟩ := hrel
                have hBr := hbx.size
                have hl1 : (bytesV tx').length ≤ 1048576 := by
                  have h1 := (unhide HST).size
                  have h2 := szs_take_le z0 q
                  have h3 := (unhide HI).1
                  rw [bytesV_length]
                  omega
                by_cases hlt2 : jj < n
                · have hr : ((g : Int) + (jj : Int)) % 4 = 0 ∨ ((g : Int) + (jj : Int)) % 4 = 1 ∨ ((g : Int) + (jj : Int)) % 4 = 2 ∨ ((g : Int) + (jj : Int)) % 4 = 3 := by omega
                  rcases hr with hr | hr | hr | hr
                  · go_wp2_with (at_builtin; go_must (refine wpList_append1 rfl _ _ 41 rfl w.heap.size 5 i5 (.int .u8 0) 1 Ydkm.underlying41 hi5 hz50 hz51 hz52 rfl u10 _ rfl wr (.int .u8 32) rfl hu hBr rfl (by omega) (by unfold maxLen; omega) ?_); intro v3 w3 hu3 hg3 hat3 hne3)
                    have R1 : Buf w3 w.heap.size v3 (tx' ++ [32]) := by rw [Buf, bytesV_append]; exact hu3
                    have R2 := Below.of_grown hbx hu hBr hg3
                    have R3 := Own.grown hown2 hg3 (Own.apart hown2 hu (by decide))
                    have R4 := hide (inner2 (c := 32) (unhide HI) (by decide))
                    clear hu3 hg3 hat3 hne3 hu hbx hown2 hl1 hr
                    go_wp2
                    go_roundw
                    case rel => exact ⟨jj + 1, _, by omega, by go_num, R1, R3, R4, R2⟩
                    case measure => first | (simp [intOf]; done) | (simp [intOf]; omega)
                  · go_wp2_with (at_builtin; go_must (refine wpList_append1 rfl _ _ 41 rfl w.heap.size 5 i5 (.int .u8 0) 1 Ydkm.underlying41 hi5 hz50 hz51 hz52 rfl u10 _ rfl wr (.int .u8 9) rfl hu hBr rfl (by omega) (by unfold maxLen; omega) ?_); intro v3 w3 hu3 hg3 hat3 hne3)
                    have R1 : Buf w3 w.heap.size v3 (tx' ++ [9]) := by rw [Buf, bytesV_append]; exact hu3
                    have R2 := Below.of_grown hbx hu hBr hg3
                    have R3 := Own.grown hown2 hg3 (Own.apart hown2 hu (by decide))
                    have R4 := hide (inner2 (c := 9) (unhide HI) (by decide))
                    clear hu3 hg3 hat3 hne3 hu hbx hown2 hl1 hr
                    go_wp2
                    go_roundw
                    case rel => exact ⟨jj + 1, _, by omega, by go_num, R1, R3, R4, R2⟩
                    case measure => first | (simp [intOf]; done) | (simp [intOf]; omega)
                  · go_wp2_with (at_builtin; go_must (refine wpList_append1 rfl _ _ 41 rfl w.heap.size 5 i5 (.int .u8 0) 1 Ydkm.underlying41 hi5 hz50 hz51 hz52 rfl u10 _ rfl wr (.int .u8 10) rfl hu hBr rfl (by omega) (by unfold maxLen; omega) ?_); intro v3 w3 hu3 hg3 hat3 hne3)
                    have R1 : Buf w3 w.heap.size v3 (tx' ++ [10]) := by rw [Buf, bytesV_append]; exact hu3
                    have R2 := Below.of_grown hbx hu hBr hg3
                    have R3 := Own.grown hown2 hg3 (Own.apart hown2 hu (by decide))
                    have R4 := hide (inner2 (c := 10) (unhide HI) (by decide))
                    clear hu3 hg3 hat3 hne3 hu hbx hown2 hl1 hr
                    go_wp2
                    go_roundw
                    case rel => exact ⟨jj + 1, _, by omega, by go_num, R1, R3, R4, R2⟩
                    case measure => first | (simp [intOf]; done) | (simp [intOf]; omega)
                  · go_wp2_with (at_builtin; go_must (refine wpList_append1 rfl _ _ 41 rfl w.heap.size 5 i5 (.int .u8 0) 1 Ydkm.underlying41 hi5 hz50 hz51 hz52 rfl u10 _ rfl wr (.int .u8 13) rfl hu hBr rfl (by omega) (by unfold maxLen; omega) ?_); intro v3 w3 hu3 hg3 hat3 hne3)
                    have R1 : Buf w3 w.heap.size v3 (tx' ++ [13]) := by rw [Buf, bytesV_append]; exact hu3
                    have R2 := Below.of_grown hbx hu hBr hg3
                    have R3 := Own.grown hown2 hg3 (Own.apart hown2 hu (by decide))
                    have R4 := hide (inner2 (c := 13) (unhide HI) (by decide))
                    clear hu3 hg3 hat3 hne3 hu hbx hown2 hl1 hr
                    go_wp2
                    go_roundw
                    case rel => exact ⟨jj + 1, _, by omega, by go_num, R1, R3, R4, R2⟩
                    case measure => first | (simp [intOf]; done) | (simp [intOf]; omega)
                · have hjn : jj = n := by omega
                  subst hjn
                  have hsh : Hid (Shut tx' (textsF ws)) := inner1 (unhide HI) (unhide HQ)
                  have hbx2 := hbx
                  have hc' : wr.cell? ⟨b, off + q, none⟩ = some (.string s) := (hbx.cell (p := ⟨b, off + q, none⟩) hbl).trans hc
                  have hlw : (ws.map Value.string).length ≤ 512 := by rw [List.length_map, (unhide HST).len]; omega
                  have HL := hide (unhide HI).1
                  generalize wr = Y at *
                  go_wp2_with fail
                  refine (hword_any _ _ (by omega)).mono ?_
                  rintro e y1 ⟨r, rfl, HNO, HNE, hrs, hby⟩
                  have O1 := hown2.below hby
                  have O2 := hu.below hby
                  have B1 : Below w.heap.size w y1 := hbx.trans (hby.mono hBr)
                  have hB1 := B1.size
                  have hO3 : Hid (∀ w3, y1.grownBy w3 u9.ownBlock → Own w3 w.heap.size 5 u10 (bytesV tx')) := fun w3 hg => Own.grown O2 hg (Own.apart O2 O1 (by decide))
                  have hB3 : Hid (∀ w3, y1.grownBy w3 u9.ownBlock → w.heap.size ≤ w3.heap.size) := fun w3 hg => Nat.le_trans hB1 hg.size
                  clear hown2 hu hbx hbx2 hby hown hbuf hbr
                  go_wp2_with (first | (at_builtin; refine wpList_append1 rfl (.tmp 84) (.tmp 86) 22 rfl w.heap.size 9 i9 (.string ByteArray.empty) 16 Ydkm.underlying22 hi9 hz90 hz91 hz92 rfl u9 (ws.map Value.string) rfl y1 (.string r) rfl O1 hB1 rfl (by omega) (by unfold maxLen; omega) ?_; intro v3 w3 hu3 hg3 hat3 hne3) | (at_builtin; refine wpList_append_str rfl (.tmp 88) (.tmp 89) 41 9 rfl w.heap.size 5 i5 Ydkm.underlying41 Ydkm.underlying9 hi5 hz50 hz51 hz52 u10 (bytesV tx') rfl w3 (unhide hO3 w3 hg3) (unhide hB3 w3 hg3) r rfl (by omega) ?_; intro v4 w4 hu4 hg4 hn4))
                  have R1 : Own w4 w.heap.size 9 v3 ((ws ++ [r]).map Value.string) := by
                    rw [List.map_append]
                    exact Own.grown hu3 hg4 (Own.apart hu3 (unhide hO3 w3 hg3) (by decide))
                  have R2 : Buf w4 w.heap.size v4 (tx' ++ r.data.toList) := by rw [Buf, bytesV_append]; exact hu4
                  have R3 := Below.of_grown (Below.of_grown B1 O1 hB1 hg3) (unhide hO3 w3 hg3) (unhide hB3 w3 hg3) hg4
                  have R4 := hide ((unhide HST).step (unhide HSS) (unhide HL) (by omega) (unhide hsh) (unhide HNO) (unhide HNE) hrs)
                  have R5 : Hid (∀ s ∈ ws ++ [r], s.size ≤ 4097) := by
                    intro x hx
                    rw [List.mem_append] at hx
                    rcases hx with hx | hx
                    · exact unhide HZ x hx
                    · rw [List.mem_singleton.1 hx]; omega
                  clear hu3 hg3 hat3 hne3 hu4 hg4 hn4 hO3 hB3 B1 O1 O2
                  go_wp2
                  go_roundw
                  case rel => exact ⟨q + 1, _, _, by omega, by go_num, R1, R2, R4, R5, R3⟩
                  case measure => simp [intOf]; omega
          · by_cases hq0 : 0 < q
            · have hq0b : decide (0 < q) = true := by simp [hq0]
              go_wp2
              have HQ : Hid (q = 0 ∨ 0 < 1) := .inr (by omega)
              go_loopw [10, 14] (fun t j wr => ∃ (jj : Nat) (tx' : List UInt8), jj ≤ 1 ∧ j = .int .i64 jj ∧ Buf wr w.heap.size t tx' ∧ Own wr w.heap.size 9 u9 (ws.map Value.string) ∧ Hid (tx'.length ≤ tx.length + jj ∧ Pend tx' (textsF ws) ∧ (Shut tx' (textsF ws) ∨ (0 < q ∧ jj = 0))) ∧ Below w.heap.size w wr) (fun _ j _ => 1 - (intOf j).toNat)
              case atStart => exact ⟨0, tx, Nat.zero_le _, rfl, hbuf, hown, inner0 (unhide HST), hbr⟩
              case round =>
                obtain ⟨jj, tx', hj, rfl, hu, hown2, HI, hbx⟩ := hrel
                have hBr := hbx.size
                have hl1 : (bytesV tx').length ≤ 1048576 := by
                  have h1 := (unhide HST).size
                  have h2 := szs_take_le z0 q
                  have h3 := (unhide HI).1
                  rw [bytesV_length]
                  omega
                by_cases hlt2 : jj < 1
                · obtain rfl : jj = 0 := by omega
                  have hr := True.intro
                  · go_wp2_with (at_builtin; go_must (refine wpList_append1 rfl _ _ 41 rfl w.heap.size 5 i5 (.int .u8 0) 1 Ydkm.underlying41 hi5 hz50 hz51 hz52 rfl u10 _ rfl wr (.int .u8 32) rfl hu hBr rfl (by omega) (by unfold maxLen; omega) ?_); intro v3 w3 hu3 hg3 hat3 hne3)
                    have R1 : Buf w3 w.heap.size v3 (tx' ++ [32]) := by rw [Buf, bytesV_append]; exact hu3
                    have R2 := Below.of_grown hbx hu hBr hg3
                    have R3 := Own.grown hown2 hg3 (Own.apart hown2 hu (by decide))
                    have R4 := hide (inner2 (c := 32) (unhide HI) (by decide))
                    clear hu3 hg3 hat3 hne3 hu hbx hown2 hl1 hr
                    go_wp2
                    go_roundw
                    case rel => exact ⟨0 + 1, _, by omega, by go_num, R1, R3, R4, R2⟩
                    case measure => first | (simp [intOf]; done) | (simp [intOf]; omega)
                · have hjn : jj = 1 := by omega
                  subst hjn
                  have hsh : Hid (Shut tx' (textsF ws)) := inner1 (unhide HI) (unhide HQ)
                  have hbx2 := hbx
                  have hc' : wr.cell? ⟨b, off + q, none⟩ = some (.string s) := (hbx.cell (p := ⟨b, off + q, none⟩) hbl).trans hc
                  have hlw : (ws.map Value.string).length ≤ 512 := by rw [List.length_map, (unhide HST).len]; omega
                  have HL := hide (unhide HI).1
                  generalize wr = Y at *
                  go_wp2_with fail
                  refine (hword_any _ _ (by omega)).mono ?_
                  rintro e y1 ⟨r, rfl, HNO, HNE, hrs, hby⟩
                  have O1 := hown2.below hby
                  have O2 := hu.below hby
                  have B1 : Below w.heap.size w y1 := hbx.trans (hby.mono hBr)
                  have hB1 := B1.size
                  have hO3 : Hid (∀ w3, y1.grownBy w3 u9.ownBlock → Own w3 w.heap.size 5 u10 (bytesV tx')) := fun w3 hg => Own.grown O2 hg (Own.apart O2 O1 (by decide))
                  have hB3 : Hid (∀ w3, y1.grownBy w3 u9.ownBlock → w.heap.size ≤ w3.heap.size) := fun w3 hg => Nat.le_trans hB1 hg.size
                  clear hown2 hu hbx hbx2 hby hown hbuf hbr
                  go_wp2_with (first | (at_builtin; refine wpList_append1 rfl (.tmp 84) (.tmp 86) 22 rfl w.heap.size 9 i9 (.string ByteArray.empty) 16 Ydkm.underlying22 hi9 hz90 hz91 hz92 rfl u9 (ws.map Value.string) rfl y1 (.string r) rfl O1 hB1 rfl (by omega) (by unfold maxLen; omega) ?_; intro v3 w3 hu3 hg3 hat3 hne3) | (at_builtin; refine wpList_append_str rfl (.tmp 88) (.tmp 89) 41 9 rfl w.heap.size 5 i5 Ydkm.underlying41 Ydkm.underlying9 hi5 hz50 hz51 hz52 u10 (bytesV tx') rfl w3 (unhide hO3 w3 hg3) (unhide hB3 w3 hg3) r rfl (by omega) ?_; intro v4 w4 hu4 hg4 hn4))
                  have R1 : Own w4 w.heap.size 9 v3 ((ws ++ [r]).map Value.string) := by
                    rw [List.map_append]
                    exact Own.grown hu3 hg4 (Own.apart hu3 (unhide hO3 w3 hg3) (by decide))
                  have R2 : Buf w4 w.heap.size v4 (tx' ++ r.data.toList) := by rw [Buf, bytesV_append]; exact hu4
                  have R3 := Below.of_grown (Below.of_grown B1 O1 hB1 hg3) (unhide hO3 w3 hg3) (unhide hB3 w3 hg3) hg4
                  have R4 := hide ((unhide HST).step (unhide HSS) (unhide HL) (by omega) (unhide hsh) (unhide HNO) (unhide HNE) hrs)
                  have R5 : Hid (∀ s ∈ ws ++ [r], s.size ≤ 4097) := by
                    intro x hx
                    rw [List.mem_append] at hx
                    rcases hx with hx | hx
                    · exact unhide HZ x hx
                    · rw [List.mem_singleton.1 hx]; omega
                  clear hu3 hg3 hat3 hne3 hu4 hg4 hn4 hO3 hB3 B1 O1 O2
                  go_wp2
                  go_roundw
                  case rel => exact ⟨q + 1, _, _, by omega, by go_num, R1, R2, R4, R5, R3⟩
                  case measure => simp [intOf]; omega
            · have hq0b : decide (0 < q) = false := by simp; omega
              go_wp2
              have HQ : Hid (q = 0 ∨ 0 < 0) := .inl (by omega)
              go_loopw [10, 14] (fun t j wr => ∃ (jj : Nat) (tx' : List UInt8), jj ≤ 0 ∧ j = .int .i64 jj ∧ Buf wr w.heap.size t tx' ∧ Own wr w.heap.size 9 u9 (ws.map Value.string) ∧ Hid (tx'.length ≤ tx.length + jj ∧ Pend tx' (textsF ws) ∧ (Shut tx' (textsF ws) ∨ (0 < q ∧ jj = 0))) ∧ Below w.heap.size w wr) (fun _ j _ => 0 - (intOf j).toNat)
              case atStart => exact ⟨0, tx, Nat.zero_le _, rfl, hbuf, hown, inner0 (unhide HST), hbr⟩
              case round =>
                obtain ⟨jj, tx', hj, rfl, hu, hown2, HI, hbx⟩ := hrel
                have hBr := hbx.size
                have hl1 : (bytesV tx').length ≤ 1048576 := by
                  have h1 := (unhide HST).size
                  have h2 := szs_take_le z0 q
                  have h3 := (unhide HI).1
                  rw [bytesV_length]
                  omega
                by_cases hlt2 : jj < 0
                · omega
                · have hjn : jj = 0 := by omega
                  subst hjn
                  have hsh : Hid (Shut tx' (textsF ws)) := inner1 (unhide HI) (unhide HQ)
                  have hbx2 := hbx
                  have hc' : wr.cell? ⟨b, off + q, none⟩ = some (.string s) := (hbx.cell (p := ⟨b, off + q, none⟩) hbl).trans hc
                  have hlw : (ws.map Value.string).length ≤ 512 := by rw [List.length_map, (unhide HST).len]; omega
                  have HL := hide (unhide HI).1
                  generalize wr = Y at *
                  go_wp2_with fail
                  refine (hword_any _ _ (by omega)).mono ?_
                  rintro e y1 ⟨r, rfl, HNO, HNE, hrs, hby⟩
                  have O1 := hown2.below hby
                  have O2 := hu.below hby
                  have B1 : Below w.heap.size w y1 := hbx.trans (hby.mono hBr)
                  have hB1 := B1.size
                  have hO3 : Hid (∀ w3, y1.grownBy w3 u9.ownBlock → Own w3 w.heap.size 5 u10 (bytesV tx')) := fun w3 hg => Own.grown O2 hg (Own.apart O2 O1 (by decide))
                  have hB3 : Hid (∀ w3, y1.grownBy w3 u9.ownBlock → w.heap.size ≤ w3.heap.size) := fun w3 hg => Nat.le_trans hB1 hg.size
                  clear hown2 hu hbx hbx2 hby hown hbuf hbr
                  go_wp2_with (first | (at_builtin; refine wpList_append1 rfl (.tmp 84) (.tmp 86) 22 rfl w.heap.size 9 i9 (.string ByteArray.empty) 16 Ydkm.underlying22 hi9 hz90 hz91 hz92 rfl u9 (ws.map Value.string) rfl y1 (.string r) rfl O1 hB1 rfl (by omega) (by unfold maxLen; omega) ?_; intro v3 w3 hu3 hg3 hat3 hne3) | (at_builtin; refine wpList_append_str rfl (.tmp 88) (.tmp 89) 41 9 rfl w.heap.size 5 i5 Ydkm.underlying41 Ydkm.underlying9 hi5 hz50 hz51 hz52 u10 (bytesV tx') rfl w3 (unhide hO3 w3 hg3) (unhide hB3 w3 hg3) r rfl (by omega) ?_; intro v4 w4 hu4 hg4 hn4))
                  have R1 : Own w4 w.heap.size 9 v3 ((ws ++ [r]).map Value.string) := by
                    rw [List.map_append]
                    exact Own.grown hu3 hg4 (Own.apart hu3 (unhide hO3 w3 hg3) (by decide))
                  have R2 : Buf w4 w.heap.size v4 (tx' ++ r.data.toList) := by rw [Buf, bytesV_append]; exact hu4
                  have R3 := Below.of_grown (Below.of_grown B1 O1 hB1 hg3) (unhide hO3 w3 hg3) (unhide hB3 w3 hg3) hg4
                  have R4 := hide ((unhide HST).step (unhide HSS) (unhide HL) (by omega) (unhide hsh) (unhide HNO) (unhide HNE) hrs)
                  have R5 : Hid (∀ s ∈ ws ++ [r], s.size ≤ 4097) := by
                    intro x hx
                    rw [List.mem_append] at hx
                    rcases hx with hx | hx
                    · exact unhide HZ x hx
                    · rw [List.mem_singleton.1 hx]; omega
                  clear hu3 hg3 hat3 hne3 hu4 hg4 hn4 hO3 hB3 B1 O1 O2
                  go_wp2
                  go_roundw
                  case rel => exact ⟨q + 1, _, _, by omega, by go_num, R1, R2, R4, R5, R3⟩
                  case measure => simp [intOf]; omega
        · have hql : q = len0 := by omega
          have HS2 : Hid (tx.length ≤ 2048 + 4096 ∧ Pend tx (textsF ws)) := by
            have h1 := (unhide HST).size
            have h2 := szs_take_le z0 q
            exact ⟨by omega, (unhide HST).pend⟩
          have hlw : ws.length = q := (unhide HST).len
          have HLW := hide hlw
          subst hql
          obtain ⟨tt, rfl⟩ : ∃ t : Nat, a2 = t := ⟨a2.toNat, by omega⟩
          clear HST hlw
          go_wp2
          go_loopw [10, 17] (fun t j wr => ∃ (jj : Nat) (tx' : List UInt8), jj ≤ 3 ∧ j = .int .i64 jj ∧ Buf wr w.heap.size t tx' ∧ Own wr w.heap.size 9 u9 (ws.map Value.string) ∧ Hid (tx'.length ≤ 2048 + 4096 + jj ∧ Pend tx' (textsF ws)) ∧ Below w.heap.size w wr) (fun _ j _ => 3 - (intOf j).toNat)
          case atStart => exact ⟨0, tx, Nat.zero_le _, rfl, hbuf, hown, unhide HS2, hbr⟩
          case round =>
            obtain ⟨jj, tx', hj, rfl, hu, hown2, HI, hbx⟩ := hrel
            have hBr := hbx.size
            have hl1 : (bytesV tx').length ≤ 10000 := by
              have h3 := (unhide HI).1
              rw [bytesV_length]
              omega
            by_cases hlt2 : (jj : Int) < (tt : Int) % 3
            · have hr : ((tt : Int) / 3 + (jj : Int)) % 4 = 0 ∨ ((tt : Int) / 3 + (jj : Int)) % 4 = 1 ∨ ((tt : Int) / 3 + (jj : Int)) % 4 = 2 ∨ ((tt : Int) / 3 + (jj : Int)) % 4 = 3 := by omega
              rcases hr with hr | hr | hr | hr
              · go_wp2_with (at_builtin; go_must (refine wpList_append1 rfl _ _ 41 rfl w.heap.size 5 i5 (.int .u8 0) 1 Ydkm.underlying41 hi5 hz50 hz51 hz52 rfl u10 _ rfl wr (.int .u8 32) rfl hu hBr rfl (by omega) (by unfold maxLen; omega) ?_); intro v3 w3 hu3 hg3 hat3 hne3)
                have R1 : Buf w3 w.heap.size v3 (tx' ++ [32]) := by rw [Buf, bytesV_append]; exact hu3
                have R2 := Below.of_grown hbx hu hBr hg3
                have R3 := Own.grown hown2 hg3 (Own.apart hown2 hu (by decide))
                have R4 := hide (inner3 (c := 32) (unhide HI) (by decide))
                clear hu3 hg3 hat3 hne3 hu hbx hown2 hl1 hr
                go_wp2
                go_roundw
                case rel => exact ⟨jj + 1, _, by omega, by go_num, R1, R3, R4, R2⟩
                case measure => first | (simp [intOf]; done) | (simp [intOf]; omega)
              · go_wp2_with (at_builtin; go_must (refine wpList_append1 rfl _ _ 41 rfl w.heap.size 5 i5 (.int .u8 0) 1 Ydkm.underlying41 hi5 hz50 hz51 hz52 rfl u10 _ rfl wr (.int .u8 9) rfl hu hBr rfl (by omega) (by unfold maxLen; omega) ?_); intro v3 w3 hu3 hg3 hat3 hne3)
                have R1 : Buf w3 w.heap.size v3 (tx' ++ [9]) := by rw [Buf, bytesV_append]; exact hu3
                have R2 := Below.of_grown hbx hu hBr hg3
                have R3 := Own.grown hown2 hg3 (Own.apart hown2 hu (by decide))
                have R4 := hide (inner3 (c := 9) (unhide HI) (by decide))
                clear hu3 hg3 hat3 hne3 hu hbx hown2 hl1 hr
                go_wp2
                go_roundw
                case rel => exact ⟨jj + 1, _, by omega, by go_num, R1, R3, R4, R2⟩
                case measure => first | (simp [intOf]; done) | (simp [intOf]; omega)
              · go_wp2_with (at_builtin; go_must (refine wpList_append1 rfl _ _ 41 rfl w.heap.size 5 i5 (.int .u8 0) 1 Ydkm.underlying41 hi5 hz50 hz51 hz52 rfl u10 _ rfl wr (.int .u8 10) rfl hu hBr rfl (by omega) (by unfold maxLen; omega) ?_); intro v3 w3 hu3 hg3 hat3 hne3)
                have R1 : Buf w3 w.heap.size v3 (tx' ++ [10]) := by rw [Buf, bytesV_append]; exact hu3
                have R2 := Below.of_grown hbx hu hBr hg3
                have R3 := Own.grown hown2 hg3 (Own.apart hown2 hu (by decide))
                have R4 := hide (inner3 (c := 10) (unhide HI) (by decide))
                clear hu3 hg3 hat3 hne3 hu hbx hown2 hl1 hr
                go_wp2
                go_roundw
                case rel => exact ⟨jj + 1, _, by omega, by go_num, R1, R3, R4, R2⟩
                case measure => first | (simp [intOf]; done) | (simp [intOf]; omega)
              · go_wp2_with (at_builtin; go_must (refine wpList_append1 rfl _ _ 41 rfl w.heap.size 5 i5 (.int .u8 0) 1 Ydkm.underlying41 hi5 hz50 hz51 hz52 rfl u10 _ rfl wr (.int .u8 13) rfl hu hBr rfl (by omega) (by unfold maxLen; omega) ?_); intro v3 w3 hu3 hg3 hat3 hne3)
                have R1 : Buf w3 w.heap.size v3 (tx' ++ [13]) := by rw [Buf, bytesV_append]; exact hu3
                have R2 := Below.of_grown hbx hu hBr hg3
                have R3 := Own.grown hown2 hg3 (Own.apart hown2 hu (by decide))
                have R4 := hide (inner3 (c := 13) (unhide HI) (by decide))
                clear hu3 hg3 hat3 hne3 hu hbx hown2 hl1 hr
                go_wp2
                go_roundw
                case rel => exact ⟨jj + 1, _, by omega, by go_num, R1, R3, R4, R2⟩
                case measure => first | (simp [intOf]; done) | (simp [intOf]; omega)
            · obtain ⟨r, hr⟩ : ∃ r : ByteArray, r = ⟨tx'.toArray⟩ := ⟨_, rfl⟩
              have HR : Hid (r.data.toList = tx') := by show _ = _; rw [hr]
              have hrz : r.size ≤ 10000 := by rw [hr, arr_size]; rw [bytesV_length] at hl1; exact hl1
              have hcv := run_string_of_buf (P := Ydkm.prog) wr 41 9 Ydkm.underlying41 Ydkm.underlying5 Ydkm.underlying9 hu
              rw [← hr] at hcv
              obtain ⟨a3, cap3, hv3, hS3, -⟩ := Own.strs hown2 (fun s h => Nat.le_trans (unhide HZ s h) (by unfold maxLen; omega))
              rw [unhide HLW] at hv3 hS3
              subst hv3
              have hS3m := hS3.max
              have hS3l := hS3.le
              unfold maxLen at hS3m
              clear hu hr hown hown2 hbuf hbr hl1
              generalize wr = X at *
              go_wp2_with fail
              refine (fields_any _ _ (by omega)).mono ?_
              rintro e x2 ⟨v2, ps, rfl, ho2, HT2, hpl, hz2, hb2⟩
              have hps : ps = ws := by
                apply textsF_inj
                rw [unhide HT2, unhide HR]
                exact (unhide HI).2.fields
              subst hps
              have hSw := hS3.below hb2
              have hbel := hide (hbx.trans (hb2.mono hbx.size))
              obtain ⟨b3, c3, hv2, hSg, -⟩ := Own.strs ho2 (fun s h => Nat.le_trans (unhide HZ s h) (by unfold maxLen; omega))
              rw [unhide HLW] at hv2 hSg
              subst hv2
              clear ho2 hz2 HT2 HR hpl hS3 hb2 hbx hcv HI
              generalize hgm : q = m at *
              clear hgm
              have hnem : ((m : Int) != (m : Int)) = false := by simp
              go_wp2
              go_loopw [19] (fun i wr => ∃ q : Nat, q ≤ m ∧ i = .int .i64 q ∧ Below x2.heap.size x2 wr) (fun i _ => m - (intOf i).toNat)
              case atStart => exact ⟨0, Nat.zero_le _, rfl, Below.refl _ _⟩
              case round =>
                obtain ⟨k, hk, rfl, hbr⟩ := hrel
                by_cases hlt : k < m
                · obtain ⟨b4, off4, s4, rfl, hs4, -, hbl4, hc4⟩ := (hSg.below hbr).nth k hlt
                  obtain ⟨b5, off5, s5, ha5, hs5, -, hbl5, hc5⟩ := (hSw.below hbr).nth k (by omega)
                  first | subst ha5 | (simp at ha5; obtain ⟨rfl, rfl⟩ := ha5)
                  obtain rfl : s5 = s4 := by rw [hs4] at hs5; exact (Option.some.inj hs5).symm
                  clear hs4 hs5
                  go_wp2_with fail
                  go_quiet (fail)
                  go_wp2
                  go_roundw
                  case rel => exact ⟨k + 1, by omega, by go_num, below_drewN hbr _⟩
                  case measure => simp [intOf]; omega
                · have HB := hide ((unhide hbel).trans (hbr.mono (unhide hbel).size))
                  go_wp2
                  go_ret
                  exact ⟨rfl, unhide HB⟩
end Go.Proofs.Ymbrdk
