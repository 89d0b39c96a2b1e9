import Derived.Test.YmbrdlJFuncs
import Derived.Test.YmbrdlSpaces
import Derived.Deep.DeepMust
set_option linter.unusedSimpArgs false
set_option linter.unusedVariables false
namespace Go.Proofs.Ymbrdl
open Go.RowKit

theorem NumsJ.nth {k : IntKind} {w : World} {a : Option Addr} {len cap : Nat} {zs : List Int} (h : Nums k w a len cap zs) (i : Nat) (hi : i < len) :
    ∃ b off z, a = some ⟨b, off, none⟩ ∧ (Lit.int k z).wf = true ∧ b < w.heap.size ∧ w.cell? ⟨b, off + i, none⟩ = some (.int k z) := by
  have hl := h.hlen
  have hk' : i < zs.length := by omega
  obtain ⟨b, off, ha, hlt, hc⟩ := h.cells i (by simpa using hk')
  exact ⟨b, off, zs[i], ha, h.wf _ (List.getElem_mem hk'), hlt, by simpa using hc⟩

theorem word_end (s : ByteArray) (I J : Nat) (h1 : I < J) (h2 : J ≤ s.size) (h3 : ∀ h : J < s.size, isSp s[J] = true) : fieldsGo (piece s I J) (s.data.toList.drop J) = piece s I J :: fieldsGo [] (s.data.toList.drop (J + 1)) := by
  have hne : piece s I J ≠ [] := by rw [ne_eq, piece_empty s I J h2 (by omega)]; omega
  by_cases h : J < s.size
  · rw [drop_cons s J h, fieldsGo_sp _ _ _ (h3 h), if_neg hne]
  · rw [List.drop_of_length_le (by simp; omega), List.drop_of_length_le (by simp; omega), fieldsGo_end, if_neg hne, fieldsGo_end, if_pos rfl]
theorem gap_end (s : ByteArray) (J : Nat) (h2 : J ≤ s.size) (h3 : ∀ h : J < s.size, isSp s[J] = true) : fieldsGo [] (s.data.toList.drop J) = fieldsGo [] (s.data.toList.drop (J + 1)) := by
  by_cases h : J < s.size
  · rw [drop_cons s J h, fieldsGo_sp _ _ _ (h3 h), if_pos rfl]
  · rw [List.drop_of_length_le (by simp; omega), List.drop_of_length_le (by simp; omega)]

set_option maxHeartbeats 2000000 in
theorem jwords_any (s : ByteArray) (w : World) (hs : s.size ≤ 1073741824) :
    Calls Ydlm.prog 22 #[.string s] w fun e w' => ∃ v, e = .returned v ∧ Own w' w.heap.size 9 v ((wsOf s.data.toList).map Value.string) ∧ (wsOf s.data.toList).length ≤ s.size + 1 ∧ Hid (∀ x ∈ wsOf s.data.toList, x.size ≤ s.size) ∧ Below w.heap.size w w' := by
  obtain ⟨i0, hi, hz0, hz1, hz2⟩ := info_parts info9j
  go_enter Ydlm.func22, Ydlm.ntmps22
  go_wp2
  go_loopw [3, 4] (fun v i wr => ∃ (I : Nat) (ps : List ByteArray), i = .int .i64 I ∧ I ≤ s.size + 1 ∧ Own wr w.heap.size 9 v (ps.map Value.string) ∧ ps.length ≤ I ∧ Hid (textsF ps ++ fieldsGo [] (s.data.toList.drop I) = fieldsGo [] s.data.toList) ∧ Hid (∀ p ∈ ps, p.size ≤ s.size) ∧ Below w.heap.size w wr) (fun _ i _ => s.size + 1 - (intOf i).toNat)
  case atStart => exact ⟨0, [], rfl, Nat.zero_le _, Own.nil _ _ _, Nat.le_refl _, by simp [Hid, textsF], by simp [Hid], Below.refl _ _⟩
  case round =>
    obtain ⟨I, ps, rfl, hI, hown, hpl, HE, HZ, hb⟩ := hrel
    have hBr := hb.size
    have hml : (ps.map Value.string).length ≤ 1073741825 := by rw [List.length_map]; omega
    by_cases hlt : I < s.size
    · generalize wr = X at *
      go_wp2
      go_loop [5] (fun j => ∃ J : Nat, j = .int .i64 J ∧ I ≤ J ∧ J ≤ s.size ∧ Hid (fieldsGo [] (s.data.toList.drop I) = fieldsGo (piece s I J) (s.data.toList.drop J))) (fun j => s.size - (intOf j).toNat)
      case atStart => exact ⟨I, rfl, Nat.le_refl _, by omega, by show _ = _; rw [piece_nil]⟩
      case round =>
        obtain ⟨J, rfl, hIJ, hJ, HJ⟩ := hrel
        by_cases hltj : J < s.size
        · have hdc := drop_cons s J hltj
          cases hsp : spB (s[J].toNat : Int)
          · have hJ2 := unhide HJ
            rw [hdc, fieldsGo_other _ _ _ hsp, ← piece_succ s I J hIJ hltj] at hJ2
            have HJ2 := hide hJ2
            clear hJ2 hdc HJ
            go_wp2_with (go_at_call 35; refine (jspace_any _ _).mono ?_; rintro e w' ⟨rfl, hw⟩; obtain rfl := hw.symm)
            go_round
            case rel => exact ⟨J + 1, by go_num, by omega, by omega, HJ2⟩
            case measure => simp [intOf]; omega
          · have HSP : Hid (∀ h : J < s.size, isSp s[J] = true) := fun _ => hsp
            clear hdc
            by_cases hpe : I < J
            · have hE2 := unhide HE
              rw [unhide HJ, word_end s I J hpe hJ (unhide HSP)] at hE2
              have HE2 := hide hE2
              clear hE2 HE HJ
              go_wp2_with (first | (go_at_call 35; refine (jspace_any _ _).mono ?_; rintro e w' ⟨rfl, hw⟩; obtain rfl := hw.symm) | (at_builtin; go_must (refine wpList_append1 rfl _ _ 22 rfl w.heap.size 9 i0 (.string ByteArray.empty) 16 Ydlm.underlying22 hi hz0 hz1 hz2 rfl u3 (ps.map Value.string) rfl X (.string (s.extract I J)) rfl hown hBr rfl (by omega) (by unfold maxLen; omega) ?_); intro v3 w3 hu3 hg3 hat3 hne3))
              have R1 : Own w3 w.heap.size 9 v3 ((ps ++ [s.extract I J]).map Value.string) := by rw [List.map_append]; exact hu3
              have R2 := Below.of_grown hb hown hBr hg3
              have R3 : Hid (textsF (ps ++ [s.extract I J]) ++ fieldsGo [] (s.data.toList.drop (J + 1)) = fieldsGo [] s.data.toList) := by
                have h := unhide HE2
                show _ = _
                rw [textsF_append, List.append_assoc, ← h]
                simp [textsF, piece_extract, piece]
              have R4 : Hid (∀ q ∈ ps ++ [s.extract I J], q.size ≤ s.size) := fun q hq => by
                rcases List.mem_append.1 hq with hq | hq
                · exact unhide HZ q hq
                · simp at hq; subst hq; rw [ByteArray.size_extract]; omega
              clear hu3 hg3 hat3 hne3 hown hb HZ HE2
              go_wp2
              go_roundw
              case rel => exact ⟨J + 1, _, by go_num, by omega, R1, by simp; omega, R3, R4, R2⟩
              case measure => simp [intOf]; omega
            · obtain rfl : I = J := by omega
              have hE2 := unhide HE
              rw [gap_end s I hJ (unhide HSP)] at hE2
              have HE2 := hide hE2
              clear hE2 HE HJ
              go_wp2_with (first | (go_at_call 35; refine (jspace_any _ _).mono ?_; rintro e w' ⟨rfl, hw⟩; obtain rfl := hw.symm) | (at_builtin; go_must (refine wpList_append1 rfl _ _ 22 rfl w.heap.size 9 i0 (.string ByteArray.empty) 16 Ydlm.underlying22 hi hz0 hz1 hz2 rfl u3 (ps.map Value.string) rfl X (.string (s.extract I J)) rfl hown hBr rfl (by omega) (by unfold maxLen; omega) ?_); intro v3 w3 hu3 hg3 hat3 hne3))
              go_roundw
              case rel => exact ⟨I + 1, ps, by go_num, by omega, hown, by omega, HE2, HZ, hb⟩
              case measure => simp [intOf]; omega
        · have HSP : Hid (∀ h : J < s.size, isSp s[J] = true) := fun h => absurd h hltj
          by_cases hpe : I < J
          · have hE2 := unhide HE
            rw [unhide HJ, word_end s I J hpe hJ (unhide HSP)] at hE2
            have HE2 := hide hE2
            clear hE2 HE HJ
            go_wp2_with (first | fail | (at_builtin; go_must (refine wpList_append1 rfl _ _ 22 rfl w.heap.size 9 i0 (.string ByteArray.empty) 16 Ydlm.underlying22 hi hz0 hz1 hz2 rfl u3 (ps.map Value.string) rfl X (.string (s.extract I J)) rfl hown hBr rfl (by omega) (by unfold maxLen; omega) ?_); intro v3 w3 hu3 hg3 hat3 hne3))
            have R1 : Own w3 w.heap.size 9 v3 ((ps ++ [s.extract I J]).map Value.string) := by rw [List.map_append]; exact hu3
            have R2 := Below.of_grown hb hown hBr hg3
            have R3 : Hid (textsF (ps ++ [s.extract I J]) ++ fieldsGo [] (s.data.toList.drop (J + 1)) = fieldsGo [] s.data.toList) := by
              have h := unhide HE2
              show _ = _
              rw [textsF_append, List.append_assoc, ← h]
              simp [textsF, piece_extract, piece]
            have R4 : Hid (∀ q ∈ ps ++ [s.extract I J], q.size ≤ s.size) := fun q hq => by
              rcases List.mem_append.1 hq with hq | hq
              · exact unhide HZ q hq
              · simp at hq; subst hq; rw [ByteArray.size_extract]; omega
            clear hu3 hg3 hat3 hne3 hown hb HZ HE2
            go_wp2
            go_roundw
            case rel => exact ⟨J + 1, _, by go_num, by omega, R1, by simp; omega, R3, R4, R2⟩
            case measure => simp [intOf]; omega
          · omega
    · have hE2 := unhide HE
      rw [List.drop_of_length_le (by simp; omega), fieldsGo_end, if_pos rfl, List.append_nil] at hE2
      obtain rfl := wsOf_eq hE2
      clear hE2 HE
      go_wp2
      go_ret
      exact ⟨_, rfl, hown, by omega, HZ, hb⟩

set_option maxHeartbeats 800000 in
theorem jpad_any (B : Nat) (v : Value) (l : List UInt8) (n : Int) (w : World) (hb : Buf w B v l) (hB : B ≤ w.heap.size) (hn1 : n ≤ 4294967296) (hn0 : 0 ≤ n) (hl : l.length ≤ 4294967296) :
    Calls Ydlm.prog 30 #[v, .int .i64 n] w fun e w' => ∃ v', e = .returned v' ∧ Buf w' B v' (l ++ spaces n.toNat) ∧ w.grownBy w' v.ownBlock ∧ Moved w v v' := by
  obtain ⟨i0, hi, hz0, hz1, hz2⟩ := info_parts info5j
  obtain ⟨N, rfl⟩ := Int.eq_ofNat_of_zero_le hn0
  clear hn0
  go_enter Ydlm.func30, Ydlm.ntmps30
  go_wp2
  go_loopw [0, 1] (fun u i wr => ∃ (k m : Nat), Hid (k + m = N) ∧ m ≤ 4294967296 ∧ k ≤ 4294967296 ∧ i = .int .i64 m ∧ Buf wr B u (l ++ spaces k) ∧ w.grownBy wr v.ownBlock ∧ Moved w v u) (fun _ i _ => (intOf i).toNat)
  case atStart => exact ⟨0, N, by simp [Hid], by omega, by omega, rfl, by simpa [spaces] using hb, grownBy_refl _ _, Moved.refl _ _⟩
  case round =>
    obtain ⟨k, m, HK, hm4, hk4, rfl, hu, hg, hm⟩ := hrel
    by_cases hlt : 0 < m
    · have hBr : B ≤ wr.heap.size := Nat.le_trans hB hg.size
      have hlen : (bytesV (l ++ spaces k)).length = l.length + k := by rw [bytesV_length, List.length_append, spaces_length]
      have hdb : decide (0 < m) = true := by simp [hlt]
      go_wp2_with (at_builtin; go_must (refine wpList_append1 rfl _ _ 28 rfl B 5 i0 (.int .u8 0) 1 Ydlm.underlying28 hi hz0 hz1 hz2 rfl u0 (bytesV (l ++ spaces k)) rfl wr (.int .u8 32) rfl hu hBr rfl (by rw [hlen]; omega) (by rw [hlen]; unfold maxLen; omega) ?_); intro v' w' hu' hg' hat' hne')
      have R1 : Buf w' B v' (l ++ spaces (k + 1)) := by rw [spaces_succ, ← List.append_assoc, Buf, bytesV_append]; exact hu'
      have R2 := grown_moved hg hm hg'
      have R3 := moved_trans hg.size hm (moved_of_at hat')
      clear hu' hg' hat' hu hg hm hlen
      go_wp2
      go_roundw
      case rel => exact ⟨k + 1, m - 1, by have := unhide HK; show _ = _; omega, by omega, by have := unhide HK; omega, by go_num, R1, R2, R3⟩
      case measure => simp [intOf]; omega
    · have hdb : decide (0 < m) = false := by simp; omega
      go_wp2
      go_ret
      obtain rfl : N = k := by have := unhide HK; omega
      exact ⟨_, rfl, hu, hg, hm⟩

theorem buf_snoc {w : World} {B : Nat} {v : Value} {l : List UInt8} {n : Int} (h0 : 0 ≤ n) (h1 : n ≤ 255) (h : Own w B 5 v (bytesV l ++ [.int .u8 n])) : Buf w B v (l ++ [UInt8.ofNat n.toNat]) := by
  rw [Buf, bytesV_append, bytesV_one]
  have e : ((UInt8.ofNat n.toNat).toNat : Int) = n := by
    rw [UInt8.toNat_ofNat', Nat.mod_eq_of_lt (by omega)]
    omega
  rw [e]
  exact h

set_option maxHeartbeats 2000000 in
theorem jtext_any (a : Option Addr) (len cap : Nat) (zs : List Int) (w : World) (hz : Nums .u8 w a len cap zs) (hl : len ≤ 1024) :
    Calls Ydlm.prog 18 #[.slice a len cap] w fun e w' => ∃ r : ByteArray, e = .returned (.string r) ∧ r.size ≤ 1024 ∧ Below w.heap.size w w' := by
  obtain ⟨i0, hi, hz0, hz1, hz2⟩ := info_parts info5j
  have hle := hz.le
  have hmx := hz.max
  unfold maxLen at hmx
  go_enter Ydlm.func18, Ydlm.ntmps18
  go_wp2
  go_loopw [3, 9] (fun v i wr => ∃ (k : Nat) (l : List UInt8), k ≤ len ∧ i = .int .i64 k ∧ Buf wr w.heap.size v l ∧ Hid (l.length = k) ∧ Below w.heap.size w wr) (fun _ i _ => len - (intOf i).toNat)
  case atStart => exact ⟨0, [], Nat.zero_le _, rfl, Buf.nil _ _, rfl, Below.refl _ _⟩
  case round =>
    obtain ⟨k, l, hk, rfl, hu, HL, hb⟩ := hrel
    have hBr := hb.size
    have hll : (bytesV l).length ≤ 1024 := by rw [bytesV_length, unhide HL]; omega
    by_cases hlt : k < len
    · obtain ⟨b, off, z, rfl, hzw, hbl, hc0⟩ := NumsJ.nth hz k hlt
      obtain ⟨hz3, hz4⟩ := bounds_u8 hzw
      have hc := (hb.cell (p := ⟨b, off + k, none⟩) hbl).trans hc0
      clear hzw hc0
      by_cases h0 : z % 16 = 0
      · go_wp2_with (at_builtin; go_must (refine wpList_append1 rfl _ _ 28 rfl w.heap.size 5 i0 (.int .u8 0) 1 Ydlm.underlying28 hi hz0 hz1 hz2 rfl u3 _ rfl wr (.int .u8 32) rfl hu hBr rfl (by omega) (by unfold maxLen; omega) ?_); intro v3 w3 hu3 hg3 hat3 hne3)
        have R1 := buf_snoc (n := 32) (by omega) (by omega) hu3
        have R2 := Below.of_grown hb hu hBr hg3
        clear hu3 hg3 hat3 hne3 hu hb
        go_wp2
        go_roundw
        case rel => exact ⟨k + 1, _, by omega, by go_num, R1, by show _ = _; rw [List.length_append, unhide HL]; rfl, R2⟩
        case measure => simp [intOf]; omega
      by_cases h5 : z % 16 = 5
      · go_wp2_with (at_builtin; go_must (refine wpList_append1 rfl _ _ 28 rfl w.heap.size 5 i0 (.int .u8 0) 1 Ydlm.underlying28 hi hz0 hz1 hz2 rfl u3 _ rfl wr (.int .u8 32) rfl hu hBr rfl (by omega) (by unfold maxLen; omega) ?_); intro v3 w3 hu3 hg3 hat3 hne3)
        have R1 := buf_snoc (n := 32) (by omega) (by omega) hu3
        have R2 := Below.of_grown hb hu hBr hg3
        clear hu3 hg3 hat3 hne3 hu hb
        go_wp2
        go_roundw
        case rel => exact ⟨k + 1, _, by omega, by go_num, R1, by show _ = _; rw [List.length_append, unhide HL]; rfl, R2⟩
        case measure => simp [intOf]; omega
      by_cases h8 : z % 16 = 8
      · go_wp2_with (at_builtin; go_must (refine wpList_append1 rfl _ _ 28 rfl w.heap.size 5 i0 (.int .u8 0) 1 Ydlm.underlying28 hi hz0 hz1 hz2 rfl u3 _ rfl wr (.int .u8 10) rfl hu hBr rfl (by omega) (by unfold maxLen; omega) ?_); intro v3 w3 hu3 hg3 hat3 hne3)
        have R1 := buf_snoc (n := 10) (by omega) (by omega) hu3
        have R2 := Below.of_grown hb hu hBr hg3
        clear hu3 hg3 hat3 hne3 hu hb
        go_wp2
        go_roundw
        case rel => exact ⟨k + 1, _, by omega, by go_num, R1, by show _ = _; rw [List.length_append, unhide HL]; rfl, R2⟩
        case measure => simp [intOf]; omega
      by_cases h11 : z % 16 = 11
      · go_wp2_with (at_builtin; go_must (refine wpList_append1 rfl _ _ 28 rfl w.heap.size 5 i0 (.int .u8 0) 1 Ydlm.underlying28 hi hz0 hz1 hz2 rfl u3 _ rfl wr (.int .u8 9) rfl hu hBr rfl (by omega) (by unfold maxLen; omega) ?_); intro v3 w3 hu3 hg3 hat3 hne3)
        have R1 := buf_snoc (n := 9) (by omega) (by omega) hu3
        have R2 := Below.of_grown hb hu hBr hg3
        clear hu3 hg3 hat3 hne3 hu hb
        go_wp2
        go_roundw
        case rel => exact ⟨k + 1, _, by omega, by go_num, R1, by show _ = _; rw [List.length_append, unhide HL]; rfl, R2⟩
        case measure => simp [intOf]; omega
      by_cases h14 : z % 16 = 14
      · go_wp2_with (at_builtin; go_must (refine wpList_append1 rfl _ _ 28 rfl w.heap.size 5 i0 (.int .u8 0) 1 Ydlm.underlying28 hi hz0 hz1 hz2 rfl u3 _ rfl wr (.int .u8 13) rfl hu hBr rfl (by omega) (by unfold maxLen; omega) ?_); intro v3 w3 hu3 hg3 hat3 hne3)
        have R1 := buf_snoc (n := 13) (by omega) (by omega) hu3
        have R2 := Below.of_grown hb hu hBr hg3
        clear hu3 hg3 hat3 hne3 hu hb
        go_wp2
        go_roundw
        case rel => exact ⟨k + 1, _, by omega, by go_num, R1, by show _ = _; rw [List.length_append, unhide HL]; rfl, R2⟩
        case measure => simp [intOf]; omega
      have e0 : (z % 16 == 0) = false := by simpa using h0
      have e5 : (z % 16 == 5) = false := by simpa using h5
      have e8 : (z % 16 == 8) = false := by simpa using h8
      have e11 : (z % 16 == 11) = false := by simpa using h11
      have e14 : (z % 16 == 14) = false := by simpa using h14
      clear h0 h5 h8 h11 h14
      go_wp2_with (at_builtin; go_must (refine wpList_append1 rfl _ _ 28 rfl w.heap.size 5 i0 (.int .u8 0) 1 Ydlm.underlying28 hi hz0 hz1 hz2 rfl u3 _ rfl wr (.int .u8 (97 + z % 16)) rfl hu hBr rfl (by omega) (by unfold maxLen; omega) ?_); intro v3 w3 hu3 hg3 hat3 hne3)
      have R1 := buf_snoc (n := (97 + z % 16)) (by omega) (by omega) hu3
      have R2 := Below.of_grown hb hu hBr hg3
      clear hu3 hg3 hat3 hne3 hu hb
      go_wp2
      go_roundw
      case rel => exact ⟨k + 1, _, by omega, by go_num, R1, by show _ = _; rw [List.length_append, unhide HL]; rfl, R2⟩
      case measure => simp [intOf]; omega
    · obtain ⟨r, hr⟩ : ∃ r : ByteArray, r = ⟨l.toArray⟩ := ⟨_, rfl⟩
      have hrz : r.size ≤ 1024 := by rw [hr, arr_size, unhide HL]; omega
      have hcv := run_string_of_buf (P := Ydlm.prog) wr 28 9 Ydlm.underlying28 Ydlm.underlying5 Ydlm.underlying9 hu
      rw [← hr] at hcv
      clear hu hr
      go_wp2
      go_ret
      exact ⟨r, rfl, hrz, hb⟩
end Go.Proofs.Ymbrdl
