import Derived.Test.YmbrdkRoom
import Derived.Test.YmbrdkOpen
set_option linter.unusedSimpArgs false
set_option linter.unusedVariables false
namespace Go.Proofs.Ymbrdk
open Go.RowKit

theorem szs_bound (ss : List ByteArray) (B : Nat) (h : ∀ s ∈ ss, s.size ≤ B) : szs ss ≤ ss.length * B := by
  induction ss with
  | nil => simp [szs]
  | cons s t ih =>
    have h1 := h s (by simp)
    have h2 := ih (fun s hs => h s (by simp [hs]))
    have : szs (s :: t) = s.size + szs t := by simp [szs]
    rw [this, List.length_cons, Nat.add_mul]; omega

theorem szs_snoc_bound {ss : List ByteArray} {k B : Nat} (hl : k ≤ ss.length) (h : ∀ j (hj : j < ss.length), j < k → ss[j].size ≤ B) : szs (ss.take k) ≤ k * B := by
  have := szs_bound (ss.take k) B (by
    intro s hs
    obtain ⟨j, hj, rfl⟩ := List.getElem_of_mem hs
    rw [List.getElem_take]
    rw [List.length_take] at hj
    exact h j (by omega) (by omega))
  rw [List.length_take, Nat.min_eq_left hl] at this
  exact this

/-- zzs930019etotal: either the sizes are too great, or the joined length comes back. -/
def Small (ss : List ByteArray) : Prop := ss.length ≤ 4096 ∧ ∀ s ∈ ss, s.size ≤ 1099511627776

theorem small_jlen {ss : List ByteArray} (h : Small ss) : jlen ss ≤ 4503599627374592 := by
  have := szs_bound ss 1099511627776 h.2
  have h1 := h.1
  unfold jlen; omega

set_option maxHeartbeats 800000 in
theorem etotal_any (a : Option Addr) (len cap : Nat) (ss : List ByteArray) (w : World) (hs : Strs w a len cap ss) :
    Calls Ydkm.prog 15 #[.slice a len cap] w fun e w' => ((¬ Small ss ∧ e = .returned (.tuple #[.int .i64 0, .bool false])) ∨ (Small ss ∧ e = .returned (.tuple #[.int .i64 (jlen ss), .bool true]))) ∧ w' = w := by
  have hle := hs.le
  have hmx := hs.max
  have hl := hide hs.hlen
  unfold maxLen at hmx
  by_cases hbig : 4096 < len
  · have R : Hid (¬ Small ss) := fun h => by have := h.1; have := unhide hl; omega
    go_enter Ydkm.func15, Ydkm.ntmps15
    go_wp2
    go_ret2
    exact ⟨.inl ⟨unhide R, rfl⟩, rfl⟩
  go_enter Ydkm.func15, Ydkm.ntmps15
  go_wp2
  go_loop [4, 12] (fun t i => ∃ (k m : Nat), k ≤ len ∧ i = .int .i64 k ∧ t = .int .i64 m ∧ m ≤ k * 1099511627776 ∧ Hid (m = szs (ss.take k)) ∧ Hid (∀ j (hj : j < ss.length), j < k → ss[j].size ≤ 1099511627776)) (fun _ i => len - (intOf i).toNat)
  case atStart => exact ⟨0, 0, Nat.zero_le _, rfl, rfl, by omega, by simp [szs, Hid], fun j hj h => absurd h (Nat.not_lt_zero _)⟩
  case round =>
    obtain ⟨k, m, hk, rfl, rfl, hm, HM, HB⟩ := hrel
    by_cases hlt : k < len
    · obtain ⟨b, off, s, rfl, hss, hsz, hb, hc⟩ := hs.nth k hlt
      have J := hide (szs_take_succ hss)
      have HS := hide hss
      clear hss
      unfold maxLen at hsz
      by_cases hsr : 1099511627776 < s.size
      · have R : Hid (¬ Small ss) := fun h => by have := h.2 s (List.mem_of_getElem? (unhide HS)); omega
        go_wp2
        go_ret2
        exact ⟨.inl ⟨unhide R, rfl⟩, rfl⟩
      · go_wp2
        go_round
        case rel =>
          refine ⟨k + 1, m + s.size, by omega, by go_num, by go_num, by omega, by have := unhide HM; show _ = _; rw [unhide J]; omega, fun j hj h => ?_⟩
          by_cases hjk : j < k
          · exact unhide HB j hj hjk
          · obtain rfl : j = k := by omega
            have h1 := unhide HS
            rw [List.getElem?_eq_getElem hj] at h1
            simp at h1
            rw [h1]; omega
        case measure => simp [intOf]; omega
    · have hh := unhide HM
      have hl' := unhide hl
      rw [List.take_of_length_le (by omega)] at hh
      have R : Hid (Small ss) := ⟨by omega, fun s h => by
        obtain ⟨j, hj, rfl⟩ := List.getElem_of_mem h
        exact unhide HB j hj (by omega)⟩
      have E : Hid (jlen ss = m + (len - 1)) := by show _ = _; unfold jlen; omega
      clear hh hl'
      by_cases h1 : 1 < len
      · go_wp2
        go_ret2
        exact ⟨.inr ⟨unhide R, ret_two (by rw [unhide E]; omega) rfl⟩, rfl⟩
      · go_wp2
        go_ret2
        exact ⟨.inr ⟨unhide R, ret_two (by rw [unhide E]; omega) rfl⟩, rfl⟩

set_option maxHeartbeats 800000 in
theorem eExact_walk (a0 : Option Addr) (len0 cap0 : Nat) (z0 : List ByteArray) (a1 : Int) (w : World) (w0 : Strs w a0 len0 cap0 z0) (w1 : (Lit.int .i64 a1).wf = true) :
    Calls Ydkm.prog 3 #[.slice a0 len0 cap0, .int .i64 a1] w fun e w' => e = .returned (.bool true) ∧ Below w.heap.size w w' := by
  obtain ⟨hb1, hb2⟩ := bounds_i64 w1
  clear w1
  go_enter Ydkm.func3, Ydkm.ntmps3
  go_wp2_with fail
  refine (etotal_any _ _ _ z0 _ w0).mono ?_
  rintro e w' ⟨⟨hn, rfl⟩ | ⟨hsm, rfl⟩, rfl⟩
  · go_wp2
    go_ret
    exact ⟨rfl, Below.refl _ _⟩
  have hj := small_jlen hsm
  clear hsm
  by_cases hf : (jlen z0 : Int) ≤ a1
  · go_wp2_with (go_at_call 16; refine (room_fits _ _ _ z0 _ _ w0 hb2 hf).mono ?_; rintro e w' ⟨rfl, rfl⟩)
    go_ret
    exact ⟨ret_bool (by simp), Below.refl _ _⟩
  · have hf' : a1 < (jlen z0 : Int) := by omega
    go_wp2_with (go_at_call 16; refine (room_not _ _ _ z0 _ _ w0 hb2 hf').mono ?_; rintro e w' ⟨rfl, rfl⟩)
    go_ret
    exact ⟨ret_bool (by simp), Below.refl _ _⟩

set_option maxHeartbeats 800000 in
theorem eSlack_walk (a0 : Option Addr) (len0 cap0 : Nat) (z0 : List ByteArray) (a1 : Int) (w : World) (w0 : Strs w a0 len0 cap0 z0) (w1 : (Lit.int .i64 a1).wf = true) :
    Calls Ydkm.prog 4 #[.slice a0 len0 cap0, .int .i64 a1] w fun e w' => e = .returned (.bool true) ∧ Below w.heap.size w w' := by
  obtain ⟨hb1, hb2⟩ := bounds_i64 w1
  clear w1
  by_cases h1 : a1 < -1152921504606846976
  · go_enter Ydkm.func4, Ydkm.ntmps4
    go_wp2
    go_ret
    exact ⟨rfl, Below.refl _ _⟩
  by_cases h2 : 1152921504606846976 < a1
  · go_enter Ydkm.func4, Ydkm.ntmps4
    go_wp2
    go_ret
    exact ⟨rfl, Below.refl _ _⟩
  go_enter Ydkm.func4, Ydkm.ntmps4
  go_wp2_with fail
  refine (etotal_any _ _ _ z0 _ w0).mono ?_
  rintro e w' ⟨⟨hn, rfl⟩ | ⟨hsm, rfl⟩, rfl⟩
  · go_wp2
    go_ret
    exact ⟨rfl, Below.refl _ _⟩
  have hj := small_jlen hsm
  clear hsm
  by_cases hf : 0 ≤ a1
  · go_wp2_with (go_at_call 16; refine (room_fits _ _ _ z0 _ _ w0 (by omega) (by omega)).mono ?_; rintro e w' ⟨rfl, rfl⟩)
    go_ret
    exact ⟨ret_bool (by simp; omega), Below.refl _ _⟩
  · go_wp2_with (go_at_call 16; refine (room_not _ _ _ z0 _ _ w0 (by omega) (by omega)).mono ?_; rintro e w' ⟨rfl, rfl⟩)
    go_ret
    exact ⟨ret_bool (by simp), Below.refl _ _⟩
end Go.Proofs.Ymbrdk
