import Derived.Test.YmbrdlRoom
import Derived.Test.YmbrdlGreedyP
import Derived.Test.YmbrdlOpen
import Derived.Deep.DeepMust
set_option linter.unusedSimpArgs false
set_option linter.unusedVariables false
namespace Go.Proofs.Ymbrdl
open Go.RowKit

theorem Strs.first {w : World} {a : Option Addr} {len cap : Nat} {ss : List ByteArray} (h : Strs w a len cap ss) (hp : 0 < len) :
    ∃ b off s, a = some ⟨b, off, none⟩ ∧ ss[0]? = some s ∧ s.size ≤ maxLen ∧ b < w.heap.size ∧ w.cell? ⟨b, off, none⟩ = some (.string s) := by
  obtain ⟨b, off, s, ha, hs, hz, hb, hc⟩ := h.nth 0 hp
  exact ⟨b, off, s, ha, hs, hz, hb, by simpa using hc⟩

theorem iff_false_of {b : Bool} {p : Prop} (hb : b = false) (h : ¬ p) : (b = true ↔ p) := by subst hb; simp [h]
theorem iff_true_of {b : Bool} {p : Prop} (hb : b = true) (h : p) : (b = true ↔ p) := by subst hb; simp [h]

set_option maxHeartbeats 1600000 in
theorem isGreedy_any (a : Option Addr) (len cap : Nat) (L : List (List ByteArray)) (width : Int) (w : World) (hs : Strss w a len cap L) (hw1 : width ≤ 9223372036854775807) (hw0 : -9223372036854775808 ≤ width) :
    Calls Ydlm.prog 24 #[.slice a len cap, .int .i64 width] w fun e w' => RetB e (GP L width len) ∧ w' = w := by
  have hle := hs.le
  have hmx := hs.max
  unfold maxLen at hmx
  go_enter Ydlm.func24, Ydlm.ntmps24
  go_wp2
  go_loop [5, 12] (fun bf i => ∃ (k : Nat) (x : Int), k ≤ len ∧ i = .int .i64 k ∧ bf = .int .i64 x ∧ -9223372036854775808 ≤ x ∧ x ≤ 9223372036854775807 ∧ Hid (GP L width k) ∧ Hid (∀ l, 0 < k → L[k - 1]? = some l → x = width - jlen l)) (fun _ i => len - (intOf i).toNat)
  case atStart => exact ⟨0, 0, Nat.zero_le _, rfl, rfl, by omega, by omega, GP.zero _ _, fun l h => absurd h (Nat.lt_irrefl _)⟩
  case round =>
    obtain ⟨k, x, hk, rfl, rfl, hx0, hx1, HG, HX⟩ := hrel
    by_cases hlt : k < len
    · obtain ⟨b, off, a', len', cap', ss, rfl, hss, hbl, hc, hS⟩ := hs.nth k hlt
      have hl1 := hide hS.hlen
      have hl2 := hS.le
      have hl3 := hS.max
      unfold maxLen at hl3
      have HSS := hide hss
      clear hss
      by_cases hr0 : len' < 1
      · have R := hide (GP.no_first (width := width) (unhide HSS) hlt (.inl (List.eq_nil_of_length_eq_zero (by have := unhide hl1; omega))))
        go_wp2
        go_ret
        exact ⟨retB_false (unhide R), rfl⟩
      · obtain ⟨b3, off3, s3, rfl, hs3, hz3, hbl3, hc3⟩ := hS.first (by omega)
        have HS3 := hide hs3
        clear hs3
        unfold maxLen at hz3
        have hne : Hid (ss ≠ []) := fun h => by have := unhide HS3; rw [h] at this; simp at this
        by_cases hf : (jlen ss : Int) ≤ width
        · by_cases hk0 : k < 1
          · have R := hide ((unhide HG).step (unhide HSS) (unhide hne) hf (fun l s h => by omega))
            go_wp2_with (go_at_call 36; refine (room_fits _ _ _ ss _ _ hS hw1 hf).mono ?_; rintro e w' ⟨rfl, rfl⟩)
            go_round
            case rel => exact ⟨k + 1, _, by omega, by go_num, rfl, by omega, by omega, unhide R, fun l _ hl => by
              have h1 := unhide HSS
              simp at hl
              rw [hl] at h1
              obtain rfl := Option.some.inj h1
              rfl⟩
            case measure => simp [intOf]; omega
          · obtain ⟨l, hl⟩ : ∃ l, L[k - 1]? = some l := ⟨L[k-1]'(by have := hs.hlen; omega), List.getElem?_eq_getElem _⟩
            have hxl := unhide HX l (by omega) hl
            have HL := hide hl
            have HXL := hide hxl
            clear hl hxl
            by_cases hlt3 : (s3.size : Int) < x
            · have R := hide (GP.no_second (n := len) (k := k - 1) (width := width) (unhide HL) (by rw [show k - 1 + 1 = k by omega]; exact unhide HSS) (unhide HS3) (by omega) (by have := unhide HXL; omega))
              go_wp2_with (go_at_call 36; refine (room_fits _ _ _ ss _ _ hS hw1 hf).mono ?_; rintro e w' ⟨rfl, rfl⟩)
              go_ret
              exact ⟨retB_false (unhide R), rfl⟩
            · have R := hide ((unhide HG).step (unhide HSS) (unhide hne) hf (fun l s h hl' hs' => by
                have h1 := unhide HL
                rw [hl'] at h1
                obtain rfl := Option.some.inj h1
                have h2 := unhide HS3
                rw [hs'] at h2
                obtain rfl := Option.some.inj h2
                have := unhide HXL
                omega))
              go_wp2_with (go_at_call 36; refine (room_fits _ _ _ ss _ _ hS hw1 hf).mono ?_; rintro e w' ⟨rfl, rfl⟩)
              go_round
              case rel => exact ⟨k + 1, _, by omega, by go_num, rfl, by omega, by omega, unhide R, fun l _ hl => by
                have h1 := unhide HSS
                simp at hl
                rw [hl] at h1
                obtain rfl := Option.some.inj h1
                rfl⟩
              case measure => simp [intOf]; omega
        · have R := hide (GP.no_first (width := width) (unhide HSS) hlt (.inr (by omega)))
          go_wp2_with (go_at_call 36; refine (room_not _ _ _ ss _ _ hS hw1 (by omega)).mono ?_; rintro e w' ⟨rfl, rfl⟩)
          go_ret
          exact ⟨retB_false (unhide R), rfl⟩
    · have R := hide ((unhide HG).mono (k' := k) (Nat.le_refl _))
      obtain rfl : k = len := by omega
      go_wp2
      go_ret
      exact ⟨retB_true (unhide R), rfl⟩
end Go.Proofs.Ymbrdl
