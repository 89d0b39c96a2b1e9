import Derived.Test.YmbrdjUnwrap
set_option linter.unusedSimpArgs false
set_option linter.unusedVariables false
namespace Go.Proofs.Ymbrdj
open Go.RowKit

theorem Ydjm.info23 : (Ydjm.prog.info? 23).map (fun i => (i.zero, i.size, i.bytes)) = some (some (.slice none 0 0), 1, 24) := by kernel_rfl

/-- A row of headers that the call owns; the words lie in the memory of W0. -/
structure Heads (W0 w : World) (v : Value) (L : List (List ByteArray)) : Prop where
  row : ∃ hs : List Value, hs.length = L.length ∧ Own w W0.heap.size 23 v hs ∧ ∀ k (h : k < L.length), ∃ a len cap, hs[k]? = some (.slice a len cap) ∧ Strs W0 a len cap L[k]

theorem Heads.nil (W0 w : World) : Heads W0 w (.slice none 0 0) [] := ⟨[], rfl, Own.nil _ _ _, fun k h => absurd h (Nat.not_lt_zero _)⟩

theorem Heads.push {W0 w' : World} {v' : Value} {L : List (List ByteArray)} {hs : List Value} {a : Option Addr} {len cap : Nat} {ss : List ByteArray} (hl : hs.length = L.length) (hr : ∀ k (h : k < L.length), ∃ a len cap, hs[k]? = some (.slice a len cap) ∧ Strs W0 a len cap L[k])
    (hown : Own w' W0.heap.size 23 v' (hs ++ [.slice a len cap])) (hS : Strs W0 a len cap ss) : Heads W0 w' v' (L ++ [ss]) := by
  refine ⟨hs ++ [.slice a len cap], by simp [hl], hown, fun k hk => ?_⟩
  by_cases hkl : k < L.length
  · obtain ⟨a', l', c', he, hS'⟩ := hr k hkl
    exact ⟨a', l', c', by rw [List.getElem?_append_left (by omega)]; exact he, by rw [List.getElem_append_left hkl]; exact hS'⟩
  · simp at hk
    obtain rfl : k = L.length := by omega
    exact ⟨a, len, cap, by rw [← hl]; simp, by simpa using hS⟩

theorem Heads.strss {W0 w : World} {v : Value} {L : List (List ByteArray)} (h : Heads W0 w v L) (hb : Below W0.heap.size W0 w) : ∃ a cap, v = .slice a L.length cap ∧ Strss w a L.length cap L := by
  obtain ⟨hs, hl, hown, hr⟩ := h.row
  obtain ⟨a, cap, hv, hle, hmx, hf, hn, hc⟩ := Own.read hown
  rw [hl] at hv hle
  refine ⟨a, cap, hv, rfl, hle, hmx, fun hp => ?_, fun k hk => ?_⟩
  · obtain ⟨b, hb⟩ := hf hp
    exact ⟨b, 0, hb⟩
  · obtain ⟨b, off, ha, hlt, hcc⟩ := hc k (by omega)
    obtain ⟨a', len', cap', he, hS⟩ := hr k hk
    rw [List.getElem?_eq_getElem (by omega)] at he
    simp at he
    rw [he] at hcc
    exact ⟨b, off, a', len', cap', ha, hlt, hcc, hS.below hb⟩

theorem Strs.cut {w : World} {b off : Nat} {len cap : Nat} {ss : List ByteArray} (h : Strs w (some ⟨b, off, none⟩) len cap ss) (k n : Nat) (hk : k + n ≤ len) : Strs w (some ⟨b, off + k, none⟩) n (cap - k) ((ss.drop k).take n) := by
  have h1 := h.dropTo k (by omega)
  have hle := h.le
  have h2 := h1.takeTo n (by omega)
  exact h2

theorem Strs.none_at_end {w : World} {a : Option Addr} {len cap : Nat} {ss : List ByteArray} (h : Strs w a len cap ss) : Strs w a 0 0 [] :=
  ⟨rfl, Nat.le_refl _, Nat.zero_le _, fun s hs => by (cases hs), fun h => absurd h (Nat.lt_irrefl _), Cells.nil _ _⟩

theorem Nums.nth {k : IntKind} {w : World} {a : Option Addr} {len cap : Nat} {zs : List Int} (h : Nums k w a len cap zs) (i : Nat) (hi : i < len) :
    ∃ b off z, a = some ⟨b, off, none⟩ ∧ zs[i]? = some z ∧ (Lit.int k z).wf = true ∧ b < w.heap.size ∧ w.cell? ⟨b, off + i, none⟩ = some (.int k z) := by
  have hl := h.hlen
  have hk' : i < zs.length := by omega
  obtain ⟨b, off, ha, hlt, hc⟩ := h.cells i (by simpa using hk')
  exact ⟨b, off, zs[i], ha, List.getElem?_eq_getElem hk', h.wf _ (List.getElem_mem hk'), hlt, by simpa using hc⟩

theorem cut_flat {α : Type} {L : List (List α)} {ss : List α} {k n : Nat} (h : L.flatten = ss.take k) : (L ++ [(ss.drop k).take n]).flatten = ss.take (k + n) := by
  rw [List.flatten_append, h]; simp [List.take_add]

set_option maxHeartbeats 1600000 in
theorem acut_any (a0 : Option Addr) (len0 cap0 : Nat) (ss : List ByteArray) (a1 : Option Addr) (len1 cap1 : Nat) (zs : List Int) (w : World) (w0 : Strs w a0 len0 cap0 ss) (w1 : Nums .u8 w a1 len1 cap1 zs) (h0 : len0 ≤ 1024) (h1 : len1 ≤ 1024) :
    Calls Ydjm.prog 16 #[.slice a0 len0 cap0, .slice a1 len1 cap1] w fun e w' => ∃ v L, e = .returned v ∧ Heads w w' v L ∧ L.length ≤ 1025 ∧ L.flatten = ss ∧ Below w.heap.size w w' := by
  obtain ⟨i0, hi, hz0, hz1, hz2⟩ := info_parts Ydjm.info23
  have hle0 := w0.le
  have hmx0 := w0.max
  have hle1 := w1.le
  have hmx1 := w1.max
  have HL0 := hide w0.hlen
  unfold maxLen at hmx0 hmx1
  go_enter Ydjm.func16, Ydjm.ntmps16
  go_wp2
  go_loopw [5, 6, 12] (fun v at_ i wr => ∃ (k t : Nat) (L : List (List ByteArray)), k ≤ len1 ∧ t ≤ len0 ∧ i = .int .i64 k ∧ at_ = .int .i64 t ∧ Heads w wr v L ∧ Hid (L.length = k) ∧ Hid (L.flatten = ss.take t) ∧ Below w.heap.size w wr) (fun _ _ i _ => len1 - (intOf i).toNat)
  case atStart => exact ⟨0, 0, [], Nat.zero_le _, Nat.zero_le _, rfl, rfl, Heads.nil _ _, rfl, by simp [Hid], Below.refl _ _⟩
  case round =>
    obtain ⟨k, t, L, hk, ht, rfl, rfl, hH, HLL, HFL, hb⟩ := hrel
    obtain ⟨hs, hhl, hown, hr⟩ := hH.row
    have HR := hide hr
    have HHL := hide hhl
    have hsl : hs.length ≤ 1024 := by have := unhide HLL; omega
    clear hr hhl
    have hBr := hb.size
    by_cases hlt : k < len1
    · obtain ⟨b1, off1, z, rfl, hz, hwz, hbl, hc⟩ := w1.nth k hlt
      obtain ⟨hz1', hz2'⟩ := bounds_u8 hwz
      have hc' : wr.cell? ⟨b1, off1 + k, none⟩ = some (.int .u8 z) := (hb.cell (p := ⟨b1, off1 + k, none⟩) hbl).trans hc
      clear hc hz hwz
      obtain ⟨r, hr4, hr5⟩ : ∃ r : Nat, z % 4 = (r : Int) ∧ r < 4 := ⟨(z % 4).toNat, by omega, by omega⟩
      by_cases hca : t < cap0
      · obtain ⟨b, off, rfl⟩ := w0.form (by omega)
        by_cases hcl : len0 - t < r
        · have hS := w0.cut t (len0 - t) (by omega)
          have HS := hide hS
          clear hS
          go_wp2_with (at_builtin; go_must (refine wpList_append1 rfl _ _ 22 rfl w.heap.size 23 i0 (.slice none 0 0) 24 Ydjm.underlying22 hi hz0 hz1 hz2 rfl u5 hs rfl wr (.slice (some ⟨b, off + t, none⟩) (len0 - t) (cap0 - t)) rfl hown hBr rfl (by omega) (by unfold maxLen; omega) ?_); intro v' w' hu' hg' hat' hne')
          have R1 := Heads.push (unhide HHL) (unhide HR) hu' (unhide HS)
          have R2 := Below.of_grown hb hown hBr hg'
          have R3 := hide (cut_flat (n := len0 - t) (unhide HFL))
          clear hu' hg' hat' hne' hown hb HR hH
          go_wp2
          go_roundw
          case rel => exact ⟨k + 1, _, _, by omega, by omega, by go_num, by first | rfl | go_num, R1, by have := unhide HLL; show _ = _; simp; omega, unhide R3, R2⟩
          case measure => simp [intOf]; omega

        · have hS := w0.cut t r (by omega)
          have HS := hide hS
          clear hS
          go_wp2_with (at_builtin; go_must (refine wpList_append1 rfl _ _ 22 rfl w.heap.size 23 i0 (.slice none 0 0) 24 Ydjm.underlying22 hi hz0 hz1 hz2 rfl u5 hs rfl wr (.slice (some ⟨b, off + t, none⟩) r (cap0 - t)) rfl hown hBr rfl (by omega) (by unfold maxLen; omega) ?_); intro v' w' hu' hg' hat' hne')
          have R1 := Heads.push (unhide HHL) (unhide HR) hu' (unhide HS)
          have R2 := Below.of_grown hb hown hBr hg'
          have R3 := hide (cut_flat (n := r) (unhide HFL))
          clear hu' hg' hat' hne' hown hb HR hH
          go_wp2
          go_roundw
          case rel => exact ⟨k + 1, _, _, by omega, by omega, by go_num, by first | rfl | go_num, R1, by have := unhide HLL; show _ = _; simp; omega, unhide R3, R2⟩
          case measure => simp [intOf]; omega

      · obtain rfl : cap0 = len0 := by omega
        obtain rfl : t = cap0 := by omega
        by_cases hcl : 0 < r
        · have hS := w0.none_at_end
          have HS := hide hS
          clear hS
          go_wp2_with (at_builtin; go_must (refine wpList_append1 rfl _ _ 22 rfl w.heap.size 23 i0 (.slice none 0 0) 24 Ydjm.underlying22 hi hz0 hz1 hz2 rfl u5 hs rfl wr (.slice a0 0 0) rfl hown hBr rfl (by omega) (by unfold maxLen; omega) ?_); intro v' w' hu' hg' hat' hne')
          have R1 := Heads.push (unhide HHL) (unhide HR) hu' (unhide HS)
          have R2 := Below.of_grown hb hown hBr hg'
          have R3 := hide (cut_flat (n := 0) (unhide HFL))
          clear hu' hg' hat' hne' hown hb HR hH
          go_wp2
          go_roundw
          case rel => exact ⟨k + 1, _, _, by omega, by omega, by go_num, by first | rfl | go_num, R1, by have := unhide HLL; show _ = _; simp; omega, unhide R3, R2⟩
          case measure => simp [intOf]; omega

        · obtain rfl : r = 0 := by omega
          have hS := w0.none_at_end
          have HS := hide hS
          clear hS
          go_wp2_with (at_builtin; go_must (refine wpList_append1 rfl _ _ 22 rfl w.heap.size 23 i0 (.slice none 0 0) 24 Ydjm.underlying22 hi hz0 hz1 hz2 rfl u5 hs rfl wr (.slice a0 0 0) rfl hown hBr rfl (by omega) (by unfold maxLen; omega) ?_); intro v' w' hu' hg' hat' hne')
          have R1 := Heads.push (unhide HHL) (unhide HR) hu' (unhide HS)
          have R2 := Below.of_grown hb hown hBr hg'
          have R3 := hide (cut_flat (n := 0) (unhide HFL))
          clear hu' hg' hat' hne' hown hb HR hH
          go_wp2
          go_roundw
          case rel => exact ⟨k + 1, _, _, by omega, by omega, by go_num, by first | rfl | go_num, R1, by have := unhide HLL; show _ = _; simp; omega, unhide R3, R2⟩
          case measure => simp [intOf]; omega

    · by_cases hca : t < cap0
      · obtain ⟨b, off, rfl⟩ := w0.form (by omega)
        have hS := w0.dropTo t (by omega)
        have HS := hide hS
        clear hS
        go_wp2_with (at_builtin; go_must (refine wpList_append1 rfl _ _ 22 rfl w.heap.size 23 i0 (.slice none 0 0) 24 Ydjm.underlying22 hi hz0 hz1 hz2 rfl u5 hs rfl wr (.slice (some ⟨b, off + t, none⟩) (len0 - t) (cap0 - t)) rfl hown hBr rfl (by omega) (by unfold maxLen; omega) ?_); intro v' w' hu' hg' hat' hne')
        have R1 := Heads.push (unhide HHL) (unhide HR) hu' (unhide HS)
        have R2 := Below.of_grown hb hown hBr hg'
        clear hu' hg' hat' hne' hown hb HR hH
        go_wp2
        go_ret
        refine ⟨_, _, rfl, R1, by have := unhide HLL; simp; omega, ?_, R2⟩

        rw [List.flatten_append, unhide HFL]; simp
      · obtain rfl : cap0 = len0 := by omega
        obtain rfl : t = cap0 := by omega
        have hS := w0.none_at_end
        have HS := hide hS
        clear hS
        go_wp2_with (at_builtin; go_must (refine wpList_append1 rfl _ _ 22 rfl w.heap.size 23 i0 (.slice none 0 0) 24 Ydjm.underlying22 hi hz0 hz1 hz2 rfl u5 hs rfl wr (.slice a0 0 0) rfl hown hBr rfl (by omega) (by unfold maxLen; omega) ?_); intro v' w' hu' hg' hat' hne')
        have R1 := Heads.push (unhide HHL) (unhide HR) hu' (unhide HS)
        have R2 := Below.of_grown hb hown hBr hg'
        clear hu' hg' hat' hne' hown hb HR hH
        go_wp2
        go_ret
        refine ⟨_, _, rfl, R1, by have := unhide HLL; simp; omega, ?_, R2⟩

        rw [List.flatten_append, unhide HFL, List.take_of_length_le (by have := unhide HL0; omega)]; simp
end Go.Proofs.Ymbrdj
