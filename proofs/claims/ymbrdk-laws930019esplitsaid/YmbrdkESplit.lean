import Derived.Test.YmbrdkRoom
import Derived.Test.YmbrdkOpen
set_option linter.unusedSimpArgs false
set_option linter.unusedVariables false
namespace Go.Proofs.Ymbrdk
open Go.RowKit

theorem jlen_split (ss : List ByteArray) (k : Nat) (h1 : 1 ≤ k) (h2 : k < ss.length) : jlen ss = jlen (ss.take k) + 1 + jlen (ss.drop k) := by
  have h := szs_append (ss.take k) (ss.drop k)
  rw [List.take_append_drop] at h
  unfold jlen
  rw [h, List.length_take, List.length_drop]; omega

theorem Strs.takeTo {w : World} {a : Option Addr} {len cap : Nat} {ss : List ByteArray} (h : Strs w a len cap ss) (k : Nat) (hk : k ≤ len) : Strs w a k cap (ss.take k) := by
  have hl := h.hlen
  have hle := h.le
  exact ⟨by rw [List.length_take]; omega, by omega, h.max, fun s hs => h.sz s (List.mem_of_mem_take hs), h.form, by rw [List.map_take]; exact h.cells.take k⟩
theorem Strs.dropTo {w : World} {b off : Nat} {len cap : Nat} {ss : List ByteArray} (h : Strs w (some ⟨b, off, none⟩) len cap ss) (k : Nat) (hk : k ≤ len) : Strs w (some ⟨b, off + k, none⟩) (len - k) (cap - k) (ss.drop k) := by
  have hl := h.hlen
  have hle := h.le
  have hm := h.max
  exact ⟨by rw [List.length_drop]; omega, by omega, by omega, fun s hs => h.sz s (List.mem_of_mem_drop hs), fun _ => ⟨b, off + k, rfl⟩, by rw [List.map_drop]; exact h.cells.drop k⟩

set_option maxHeartbeats 800000 in
theorem eSplit_walk (a0 : Option Addr) (len0 cap0 : Nat) (z0 : List ByteArray) (a1 : Int) (a2 : Int) (w : World) (w0 : Strs w a0 len0 cap0 z0) (w1 : (Lit.int .u64 a1).wf = true) (w2 : (Lit.int .i64 a2).wf = true) :
    Calls Ydkm.prog 5 #[.slice a0 len0 cap0, .int .u64 a1, .int .i64 a2] w fun e w' => e = .returned (.bool true) ∧ Below w.heap.size w w' := by
  obtain ⟨hb1, hb2⟩ := bounds_i64 w2
  obtain ⟨hc1, hc2⟩ := bounds_u64 w1
  clear w1 w2
  have hle := w0.le
  have hmx := w0.max
  have hl := hide w0.hlen
  unfold maxLen at hmx
  go_enter Ydkm.func5, Ydkm.ntmps5
  go_wp2
  go_loop [7, 22] (fun t i => ∃ (k : Nat) (x : Int), k ≤ len0 ∧ i = .int .i64 k ∧ t = .int .i64 x ∧ -9223372036854775808 ≤ x ∧ x ≤ 9223372036854775807) (fun _ i => len0 - (intOf i).toNat)
  case atStart => exact ⟨0, a2, Nat.zero_le _, rfl, rfl, hb1, hb2⟩
  case round =>
    obtain ⟨k, x, hk, rfl, rfl, hx1, hx2⟩ := hrel
    by_cases hlt : k < len0
    · obtain ⟨b, off, s, rfl, hss, hsz, hb, hc⟩ := w0.nth k hlt
      clear hss
      unfold maxLen at hsz
      go_wp2
      go_round
      case rel => exact ⟨k + 1, _, by omega, by go_num, rfl, (bounds_i64 (wrap64_wf _)).1, (bounds_i64 (wrap64_wf _)).2⟩
      case measure => simp [intOf]; omega
    · clear hb1 hb2
      by_cases hn2 : len0 < 2
      · by_cases hn1 : len0 < 1
        · have hj : Hid (jlen z0 = 0) := by
            have := unhide hl
            obtain rfl : z0 = [] := List.eq_nil_of_length_eq_zero (by omega)
            rfl
          by_cases hx : 0 ≤ x
          · go_wp2_with (go_at_call 16; refine (room_fits _ _ _ z0 _ _ w0 hx2 (by rw [unhide hj]; omega)).mono ?_; rw [unhide hj]; rintro e w' ⟨rfl, rfl⟩)
            go_ret
            exact ⟨ret_bool (by simp), Below.refl _ _⟩
          · go_wp2_with (go_at_call 16; refine (room_not _ _ _ z0 _ _ w0 hx2 (by rw [unhide hj]; omega)).mono ?_; rintro e w' ⟨rfl, rfl⟩)
            go_ret
            exact ⟨ret_bool (by simp), Below.refl _ _⟩
        · obtain ⟨b, off, s, rfl, hss, hsz, hb, hc⟩ := w0.nth 0 (by omega)
          unfold maxLen at hsz
          have hj : Hid (jlen z0 = s.size) := by
            have := unhide hl
            show _ = _
            match z0, hss, (show z0.length = 1 by omega) with
            | [t], hss, _ => simp at hss; subst hss; simp [jlen, szs]
          clear hss
          have hc' : w.cell? ⟨b, off, none⟩ = some (.string s) := by simpa using hc
          clear hc
          by_cases hx : (s.size : Int) ≤ x
          · go_wp2_with (go_at_call 16; refine (room_fits _ _ _ z0 _ _ w0 hx2 (by rw [unhide hj]; omega)).mono ?_; rw [unhide hj]; rintro e w' ⟨rfl, rfl⟩)
            go_ret
            exact ⟨ret_bool (by simp), Below.refl _ _⟩
          · go_wp2_with (go_at_call 16; refine (room_not _ _ _ z0 _ _ w0 hx2 (by rw [unhide hj]; omega)).mono ?_; rintro e w' ⟨rfl, rfl⟩)
            go_ret
            exact ⟨ret_bool (by simp), Below.refl _ _⟩
      · obtain ⟨b, off, s, rfl, hss, hsz, hb, hc⟩ := w0.nth 0 (by omega)
        clear hss hc
        obtain ⟨r, hr, hr1⟩ : ∃ r : Nat, a1 % ((len0 : Int) - 1) = (r : Int) ∧ r + 1 < len0 := by
          have h1 := Int.emod_nonneg a1 (b := (len0 : Int) - 1) (by omega)
          have h2 := Int.emod_lt_of_pos a1 (b := (len0 : Int) - 1) (by omega)
          exact ⟨(a1 % ((len0 : Int) - 1)).toNat, by omega, by omega⟩
        have hk1 : ((1 : Int) + (r : Int)).toNat = r + 1 := by omega
        have w1 := hide (w0.takeTo (r + 1) (by omega))
        have w2 := hide (w0.dropTo (r + 1) (by omega))
        have HJ := hide (jlen_split z0 (r + 1) (by omega) (by have := unhide hl; omega))
        by_cases hA : x < (jlen (z0.take (r + 1)) : Int)
        · have hw : x < (jlen z0 : Int) := by have := unhide HJ; omega
          go_wp2_with fail
          refine (room_not _ _ _ z0 _ _ w0 hx2 hw).mono ?_
          rintro e w' ⟨rfl, rfl⟩
          go_wp2_with fail
          refine (room_not _ _ _ _ _ _ (unhide w1) hx2 hA).mono ?_
          rintro e w' ⟨rfl, rfl⟩
          go_wp2
          go_ret
          exact ⟨rfl, Below.refl _ _⟩
        by_cases hB : x < (jlen z0 : Int)
        · have h2 : x - (jlen (z0.take (r + 1)) : Int) - 1 < (jlen (z0.drop (r + 1)) : Int) := by have := unhide HJ; omega
          go_wp2_with fail
          refine (room_not _ _ _ z0 _ _ w0 hx2 hB).mono ?_
          rintro e w' ⟨rfl, rfl⟩
          go_wp2_with fail
          refine (room_fits _ _ _ _ _ _ (unhide w1) hx2 (by omega)).mono ?_
          rintro e w' ⟨rfl, rfl⟩
          have H2 := hide h2
          clear h2
          generalize jlen (z0.take (r + 1)) = j1 at *
          go_wp2_with fail
          refine (room_not _ _ _ _ _ _ (unhide w2) (by omega) (unhide H2)).mono ?_
          rintro e w' ⟨rfl, rfl⟩
          go_wp2
          go_ret
          exact ⟨rfl, Below.refl _ _⟩
        · have h2 : (jlen (z0.drop (r + 1)) : Int) ≤ x - (jlen (z0.take (r + 1)) : Int) - 1 := by have := unhide HJ; omega
          go_wp2_with fail
          refine (room_fits _ _ _ z0 _ _ w0 hx2 (by omega)).mono ?_
          rintro e w' ⟨rfl, rfl⟩
          go_wp2_with fail
          refine (room_fits _ _ _ _ _ _ (unhide w1) hx2 (by omega)).mono ?_
          rintro e w' ⟨rfl, rfl⟩
          have H2 := hide h2
          clear h2
          generalize jlen (z0.take (r + 1)) = j1 at *
          go_wp2_with fail
          refine (room_fits _ _ _ _ _ _ (unhide w2) (by omega) (unhide H2)).mono ?_
          rintro e w' ⟨rfl, rfl⟩
          have hE := hide (show x - (jlen z0 : Int) = x - (j1 : Int) - 1 - (jlen (z0.drop (r + 1)) : Int) by have := unhide HJ; omega)
          go_wp2
          go_ret
          exact ⟨ret_bool (by rw [unhide hE]; simp), Below.refl _ _⟩
end Go.Proofs.Ymbrdk
