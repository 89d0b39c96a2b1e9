import Derived.Test.YmbrdlGreedy
import Derived.Deep.QuietTactic
import Derived.BigQuiet
set_option linter.unusedSimpArgs false
set_option linter.unusedVariables false
namespace Go.Proofs.Ymbrdl
open Go.RowKit

/-- The words that the laws speak of. -/
def KS (ss : List ByteArray) : Prop := ss.length ≤ 1024 ∧ ∀ s ∈ ss, s.size ≤ 1048576
def KSL (L : List (List ByteArray)) : Prop := L.length ≤ 1024 ∧ ∀ ss ∈ L, KS ss

theorem szs_boundK (ss : List ByteArray) (B : Nat) (h : ∀ s ∈ ss, s.size ≤ B) : szs ss ≤ ss.length * B := by
  induction ss with
  | nil => simp [szs]
  | cons s t ih =>
    have h1 := h s (by simp)
    have h2 := ih (fun s hs => h s (by simp [hs]))
    have : szs (s :: t) = s.size + szs t := by simp [szs]
    rw [this, List.length_cons, Nat.add_mul]; omega

theorem KS.szs {ss : List ByteArray} (h : KS ss) : szs ss ≤ 1073741824 :=
  Nat.le_trans (szs_boundK ss 1048576 h.2) (Nat.le_trans (Nat.mul_le_mul_right _ h.1) (by omega))
theorem KS.jlen {ss : List ByteArray} (h : KS ss) : jlen ss ≤ 1073742848 := by
  have h1 := h.szs
  have h2 := h.1
  unfold Go.Proofs.Ymbrdl.jlen; omega

set_option maxHeartbeats 800000 in
theorem kbig_any (a : Option Addr) (len cap : Nat) (ss : List ByteArray) (w : World) (hs : Strs w a len cap ss) :
    Calls Ydlm.prog 27 #[.slice a len cap] w fun e w' => ((¬ KS ss ∧ e = .returned (.bool true)) ∨ (KS ss ∧ e = .returned (.bool false))) ∧ w' = w := by
  have hle := hs.le
  have hmx := hs.max
  have hl := hide hs.hlen
  unfold maxLen at hmx
  by_cases hbig : 1024 < len
  · have R : Hid (¬ KS ss) := fun h => by have := h.1; have := unhide hl; omega
    go_enter Ydlm.func27, Ydlm.ntmps27
    go_wp2
    go_ret
    exact ⟨.inl ⟨unhide R, rfl⟩, rfl⟩
  go_enter Ydlm.func27, Ydlm.ntmps27
  go_wp2
  go_loop [10] (fun i => ∃ (k : Nat), k ≤ len ∧ i = .int .i64 k ∧ Hid (∀ j (hj : j < ss.length), j < k → ss[j].size ≤ 1048576)) (fun i => len - (intOf i).toNat)
  case atStart => exact ⟨0, Nat.zero_le _, rfl, fun j hj h => absurd h (Nat.not_lt_zero _)⟩
  case round =>
    obtain ⟨k, hk, rfl, HB⟩ := hrel
    by_cases hlt : k < len
    · obtain ⟨b, off, s, rfl, hss, hsz, hb, hc⟩ := hs.nth k hlt
      have HS := hide hss
      clear hss
      unfold maxLen at hsz
      by_cases hsr : 1048576 < s.size
      · have R : Hid (¬ KS ss) := fun h => by have := h.2 s (List.mem_of_getElem? (unhide HS)); omega
        go_wp2
        go_ret
        exact ⟨.inl ⟨unhide R, rfl⟩, rfl⟩
      · go_wp2
        go_round
        case rel =>
          refine ⟨k + 1, by omega, by go_num, fun j hj h => ?_⟩
          by_cases hjk : j < k
          · exact unhide HB j hj hjk
          · obtain rfl : j = k := by omega
            have h1 := unhide HS
            rw [List.getElem?_eq_getElem hj] at h1
            simp at h1
            rw [h1]; omega
        case measure => simp [intOf]; omega
    · have R : Hid (KS ss) := ⟨by have := unhide hl; omega, fun s h => by
        obtain ⟨j, hj, rfl⟩ := List.getElem_of_mem h
        exact unhide HB j hj (by have := unhide hl; omega)⟩
      go_wp2
      go_ret
      exact ⟨.inr ⟨unhide R, rfl⟩, rfl⟩

set_option maxHeartbeats 800000 in
theorem kbigLines_any (a : Option Addr) (len cap : Nat) (L : List (List ByteArray)) (w : World) (hs : Strss w a len cap L) :
    Calls Ydlm.prog 23 #[.slice a len cap] w fun e w' => ((¬ KSL L ∧ e = .returned (.bool true)) ∨ (KSL L ∧ e = .returned (.bool false))) ∧ w' = w := by
  have hle := hs.le
  have hmx := hs.max
  have hl := hide hs.hlen
  unfold maxLen at hmx
  by_cases hbig : 1024 < len
  · have R : Hid (¬ KSL L) := fun h => by have := h.1; have := unhide hl; omega
    go_enter Ydlm.func23, Ydlm.ntmps23
    go_wp2
    go_ret
    exact ⟨.inl ⟨unhide R, rfl⟩, rfl⟩
  go_enter Ydlm.func23, Ydlm.ntmps23
  go_wp2
  go_loop [10] (fun i => ∃ (k : Nat), k ≤ len ∧ i = .int .i64 k ∧ Hid (∀ j (hj : j < L.length), j < k → KS L[j])) (fun i => len - (intOf i).toNat)
  case atStart => exact ⟨0, Nat.zero_le _, rfl, fun j hj h => absurd h (Nat.not_lt_zero _)⟩
  case round =>
    obtain ⟨k, hk, rfl, HB⟩ := hrel
    by_cases hlt : k < len
    · obtain ⟨b, off, a', len', cap', ss, rfl, hss, hbl, hc, hS⟩ := hs.nth k hlt
      have HSS := hide hss
      clear hss
      go_wp2_with fail
      refine (kbig_any _ _ _ ss _ hS).mono ?_
      rintro e w' ⟨hx, hw⟩
      obtain rfl := hw.symm
      rcases hx with ⟨hn, rfl⟩ | ⟨hsm, rfl⟩
      · have R : Hid (¬ KSL L) := fun h => hn (h.2 ss (List.mem_of_getElem? (unhide HSS)))
        clear hn
        go_wp2
        go_ret
        exact ⟨.inl ⟨unhide R, rfl⟩, rfl⟩
      · have HK := hide hsm
        clear hsm
        go_wp2
        go_round
        case rel =>
          refine ⟨k + 1, by omega, by go_num, fun j hj h => ?_⟩
          by_cases hjk : j < k
          · exact unhide HB j hj hjk
          · obtain rfl : j = k := by omega
            have h1 := unhide HSS
            rw [List.getElem?_eq_getElem hj] at h1
            obtain h1 := Option.some.inj h1
            rw [h1]; exact unhide HK
        case measure => simp [intOf]; omega
    · have R : Hid (KSL L) := ⟨by have := unhide hl; omega, fun s h => by
        obtain ⟨j, hj, rfl⟩ := List.getElem_of_mem h
        exact unhide HB j hj (by have := unhide hl; omega)⟩
      go_wp2
      go_ret
      exact ⟨.inr ⟨unhide R, rfl⟩, rfl⟩

set_option maxHeartbeats 800000 in
theorem kjoined_any (a : Option Addr) (len cap : Nat) (ss : List ByteArray) (w : World) (hs : Strs w a len cap ss) (hk : KS ss) :
    Calls Ydlm.prog 26 #[.slice a len cap] w fun e w' => e = .returned (.int .i64 (jlen ss)) ∧ w' = w := by
  have hle := hs.le
  have hmx := hs.max
  have hl := hide hs.hlen
  unfold maxLen at hmx
  have HK := hide hk
  have hl1 : len ≤ 1024 := by have := hk.1; have := unhide hl; omega
  have hT : ∀ k, szs (ss.take k) ≤ 1073741824 := fun k => Nat.le_trans (szs_take_le ss k) hk.szs
  have HT := hide hT
  clear hk hT
  by_cases h0 : len < 1
  · have HE : Hid (jlen ss = 0) := by
      have := unhide hl
      obtain rfl : ss = [] := List.eq_nil_of_length_eq_zero (by omega)
      rfl
    go_enter Ydlm.func26, Ydlm.ntmps26
    go_wp2
    go_ret
    exact ⟨ret_int (by rw [unhide HE]; rfl), rfl⟩
  have h0' : ((len : Int) == 0) = false := by simp; omega
  go_enter Ydlm.func26, Ydlm.ntmps26
  go_wp2
  go_loop [3, 14] (fun t i => ∃ (k m : Nat), k ≤ len ∧ i = .int .i64 k ∧ t = .int .i64 m ∧ m ≤ 1073742848 ∧ Hid (m = szs (ss.take k) + (len - 1))) (fun _ i => len - (intOf i).toNat)
  case atStart => exact ⟨0, len - 1, Nat.zero_le _, rfl, by congr 1; omega, by omega, by simp [szs, Hid]⟩
  case round =>
    obtain ⟨k, m, hk, rfl, rfl, hm, HM⟩ := hrel
    by_cases hlt : k < len
    · obtain ⟨b, off, s, rfl, hss, hsz, hb, hc⟩ := hs.nth k hlt
      have J := hide (szs_take_succ hss)
      have hs1 : s.size ≤ 1048576 := (unhide HK).2 s (List.mem_of_getElem? hss)
      clear hss hsz
      have hm2 : m + s.size ≤ 1073742848 := by have h1 := unhide HM; have h2 := unhide J; have h3 := unhide HT (k + 1); omega
      go_wp2
      go_round
      case rel => exact ⟨k + 1, m + s.size, by omega, by go_num, by go_num, by omega, by have := unhide HM; show _ = _; rw [unhide J]; omega⟩
      case measure => simp [intOf]; omega
    · have HE : Hid (m = jlen ss) := by
        have h1 := unhide HM
        have h2 := unhide hl
        rw [List.take_of_length_le (by omega)] at h1
        show _ = _
        unfold jlen; omega
      go_wp2
      go_ret
      exact ⟨ret_int (by rw [unhide HE]), rfl⟩
end Go.Proofs.Ymbrdl
