import Derived.Test.YmbrdlJoinLines
import Derived.Deep.QuietTactic
import Derived.BigQuiet
set_option linter.unusedSimpArgs false
set_option linter.unusedVariables false
namespace Go.Proofs.Ymbrdl
open Go.RowKit

/-- The inputs that the laws speak of. -/
def ISmall (ss : List ByteArray) : Prop := ss.length ≤ 1024 ∧ ∀ s ∈ ss, s.size ≤ 1024

theorem szs_bound (ss : List ByteArray) (B : Nat) (h : ∀ s ∈ ss, s.size ≤ B) : szs ss ≤ ss.length * B := by
  induction ss with
  | nil => simp [szs]
  | cons s t ih =>
    have h1 := h s (by simp)
    have h2 := ih (fun s hs => h s (by simp [hs]))
    have : szs (s :: t) = s.size + szs t := by simp [szs]
    rw [this, List.length_cons, Nat.add_mul]; omega

theorem ISmall.szs {ss : List ByteArray} (h : ISmall ss) : szs ss ≤ 1048576 := by
  have h1 := szs_bound ss 1024 h.2
  have h2 := h.1
  exact Nat.le_trans h1 (Nat.le_trans (Nat.mul_le_mul_right _ h2) (by omega))

set_option maxHeartbeats 800000 in
theorem ibig_any (a : Option Addr) (len cap : Nat) (ss : List ByteArray) (w : World) (hs : Strs w a len cap ss) :
    Calls Ydlm.prog 15 #[.slice a len cap] w fun e w' => ((¬ ISmall ss ∧ e = .returned (.bool true)) ∨ (ISmall ss ∧ e = .returned (.bool false))) ∧ w' = w := by
  have hle := hs.le
  have hmx := hs.max
  have hl := hide hs.hlen
  unfold maxLen at hmx
  by_cases hbig : 1024 < len
  · have R : Hid (¬ ISmall ss) := fun h => by have := h.1; have := unhide hl; omega
    go_enter Ydlm.func15, Ydlm.ntmps15
    go_wp2
    go_ret
    exact ⟨.inl ⟨unhide R, rfl⟩, rfl⟩
  go_enter Ydlm.func15, Ydlm.ntmps15
  go_wp2
  go_loop [3] (fun i => ∃ (k : Nat), k ≤ len ∧ i = .int .i64 k ∧ Hid (∀ j (hj : j < ss.length), j < k → ss[j].size ≤ 1024)) (fun i => len - (intOf i).toNat)
  case atStart => exact ⟨0, Nat.zero_le _, rfl, fun j hj h => absurd h (Nat.not_lt_zero _)⟩
  case round =>
    obtain ⟨k, hk, rfl, HB⟩ := hrel
    by_cases hlt : k < len
    · obtain ⟨b, off, s, rfl, hss, hsz, hb, hc⟩ := hs.nth k hlt
      have HS := hide hss
      clear hss
      unfold maxLen at hsz
      by_cases hsr : 1024 < s.size
      · have R : Hid (¬ ISmall ss) := fun h => by have := h.2 s (List.mem_of_getElem? (unhide HS)); omega
        go_wp2
        go_ret
        exact ⟨.inl ⟨unhide R, rfl⟩, rfl⟩
      · go_wp2
        go_round
        case rel =>
          refine ⟨k + 1, by omega, by go_num, fun j hj h => ?_⟩
          by_cases hjk : j < k
          · exact unhide HB j hj hjk
          · obtain rfl : j = k := by omega
            have h1 := unhide HS
            rw [List.getElem?_eq_getElem hj] at h1
            simp at h1
            rw [h1]; omega
        case measure => simp [intOf]; omega
    · have R : Hid (ISmall ss) := ⟨by have := unhide hl; omega, fun s h => by
        obtain ⟨j, hj, rfl⟩ := List.getElem_of_mem h
        exact unhide HB j hj (by have := unhide hl; omega)⟩
      go_wp2
      go_ret
      exact ⟨.inr ⟨unhide R, rfl⟩, rfl⟩

theorem linesL_split {ss : List ByteArray} {k : Nat} {s : ByteArray} (h : ss[k]? = some s) : ∃ rest, linesL ss = linesL (ss.take k) ++ (s.data.toList ++ 10 :: rest) := by
  have e : ss = ss.take (k + 1) ++ ss.drop (k + 1) := (List.take_append_drop _ _).symm
  refine ⟨linesL (ss.drop (k + 1)), ?_⟩
  conv => lhs; rw [e]
  rw [linesL_append, linesL_take_succ h]; simp

/-- What one line looks like in the text. -/
theorem lines_at {ss : List ByteArray} {r s : ByteArray} {k P : Nat} (hr : r.data.toList = linesL ss) (h : ss[k]? = some s) (hP : P = (linesL (ss.take k)).length) :
    P + s.size + 1 ≤ r.size ∧ (∀ j (hj : j < s.size) (hk : P + j < r.size), r[P + j] = s[j]) ∧ (∀ (hk : P + s.size < r.size), r[P + s.size].toNat = 10) := by
  obtain ⟨rest, he⟩ := linesL_split h
  rw [← hr] at he
  have hl : r.size = P + (s.size + (rest.length + 1)) := by
    have := congrArg List.length he
    simp at this
    rw [hP]; omega
  refine ⟨by omega, fun j hj hk => ?_, fun hk => ?_⟩
  · have h1 : r.data.toList[P + j]? = s.data.toList[j]? := by
      rw [he, hP, List.getElem?_append_right (by omega), Nat.add_sub_cancel_left, List.getElem?_append_left (by simpa using hj)]
    rw [List.getElem?_eq_getElem (by simpa using hk), List.getElem?_eq_getElem (by simpa using hj)] at h1
    exact Option.some.inj h1
  · have h1 : r.data.toList[P + s.size]? = some 10 := by
      rw [he, hP, List.getElem?_append_right (by omega), Nat.add_sub_cancel_left, List.getElem?_append_right (by simp)]
      simp
    rw [List.getElem?_eq_getElem (by simpa using hk)] at h1
    have h2 : r[P + s.size] = 10 := Option.some.inj h1
    rw [h2]; rfl

set_option maxHeartbeats 1600000 in
theorem iExact_walk (a0 : Option Addr) (len0 cap0 : Nat) (z0 : List ByteArray) (w : World) (w0 : Strs w a0 len0 cap0 z0) :
    Calls Ydlm.prog 3 #[.slice a0 len0 cap0] w fun e w' => e = .returned (.bool true) ∧ Below w.heap.size w w' := by
  have hle := w0.le
  have hmx := w0.max
  have hl := hide w0.hlen
  unfold maxLen at hmx
  go_enter Ydlm.func3, Ydlm.ntmps3
  go_wp2_with fail
  refine (ibig_any _ _ _ z0 _ w0).mono ?_
  rintro e w' ⟨⟨hn, rfl⟩ | ⟨hsm, rfl⟩, rfl⟩
  · go_wp2
    go_ret
    exact ⟨rfl, Below.refl _ _⟩
  have hsz := hsm.szs
  have hln := hsm.1
  have HSM := hide hsm
  clear hsm
  have hln' : len0 ≤ 1024 := by have := unhide hl; omega
  go_wp2_with fail
  refine (joinLines_any _ _ _ z0 _ w0 (by omega)).mono ?_
  rintro e w1 ⟨r, rfl, HR, hb1⟩
  have hrs : r.size ≤ 1049600 := by
    have h1 := congrArg List.length (unhide HR)
    rw [linesL_length] at h1
    simp at h1
    omega
  go_wp2
  go_loopw [4, 5] (fun p i wr => ∃ (k P : Nat), k ≤ len0 ∧ i = .int .i64 k ∧ p = .int .i64 P ∧ P ≤ r.size ∧ Hid (P = (linesL (z0.take k)).length) ∧ Below w1.heap.size w1 wr) (fun _ i _ => len0 - (intOf i).toNat)
  case atStart => exact ⟨0, 0, Nat.zero_le _, rfl, rfl, Nat.zero_le _, rfl, Below.refl _ _⟩
  case round =>
    obtain ⟨k, P, hk, rfl, rfl, hP, HP, hbr⟩ := hrel
    have hbw := hb1.trans (hbr.mono hb1.size)
    by_cases hlt : k < len0
    · obtain ⟨b, off, s, rfl, hss, -, hbl, hc⟩ := (w0.below hbw).nth k hlt
      obtain ⟨hA, hB, hC⟩ := lines_at (unhide HR) hss (unhide HP)
      have hs1 : s.size ≤ 1024 := (unhide HSM).2 s (List.mem_of_getElem? hss)
      have HS := hide hss
      have HBf := hide hB
      have HCf := hide hC
      clear hss hB hC
      go_wp2
      go_loopw [7] (fun j wz => ∃ (j' : Nat), j' ≤ s.size ∧ j = .int .i64 j' ∧ Below w1.heap.size w1 wz) (fun j _ => s.size - (intOf j).toNat)
      case atStart => exact ⟨0, Nat.zero_le _, rfl, hbr⟩
      case round =>
        obtain ⟨j', hj', rfl, hbz⟩ := hrel
        by_cases hlt2 : j' < s.size
        · have hk1 : P + j' < r.size := by omega
          have hq := unhide HBf j' hlt2 hk1
          have hi1 : (0 : Int) ≤ (P : Int) + (j' : Int) := by omega
          have hi2 : (P : Int) + (j' : Int) < (r.size : Int) := by omega
          have hi3 : ((P : Int) + (j' : Int)).toNat = P + j' := by omega
          go_wp2_with fail
          go_quiet (fail)
          go_wp2
          go_roundw
          case rel => exact ⟨j' + 1, by omega, by go_num, below_drewN hbz _⟩
          case measure => simp [intOf]; omega
        · obtain rfl : j' = s.size := by omega
          have hk2 : P + s.size < r.size := by omega
          have hq := unhide HCf hk2
          have hi1 : (0 : Int) ≤ (P : Int) + (s.size : Int) := by omega
          have hi2 : (P : Int) + (s.size : Int) < (r.size : Int) := by omega
          have hi3 : ((P : Int) + (s.size : Int)).toNat = P + s.size := by omega
          go_wp2
          go_roundw
          case rel =>
            refine ⟨k + 1, P + s.size + 1, by omega, by go_num, by go_num, by omega, ?_, hbz⟩
            have h1 := unhide HP
            show _ = _
            rw [linesL_take_succ (unhide HS), List.length_append, List.length_append, ← h1]; simp
          case measure => simp [intOf]; omega
    · have hPe : Hid (P = r.size) := by
        have h1 := unhide HP
        rw [List.take_of_length_le (by have := unhide hl; omega), ← unhide HR] at h1
        show _ = _
        rw [h1]; simp
      have HBW := hide hbw
      clear hbw
      go_wp2
      go_ret
      exact ⟨ret_bool (by rw [unhide hPe]; simp), unhide HBW⟩
end Go.Proofs.Ymbrdl
