import Derived.Test.YmbrdlKFuncs
set_option linter.unusedSimpArgs false
set_option linter.unusedVariables false
namespace Go.Proofs.Ymbrdl
open Go.RowKit

theorem strs_drewN {w : World} {a : Option Addr} {len cap : Nat} {ss : List ByteArray} (h : Strs w a len cap ss) (n : Nat) : Strs (w.drewN n) a len cap ss := h.below (below_drewN (Below.refl _ _) n)

theorem GP.of_parts {L : List (List ByteArray)} {width : Int} {n : Nat} (h1 : ∀ (j : Nat) l, j < n → L[j]? = some l → l ≠ [] ∧ (jlen l : Int) ≤ width)
    (h2 : ∀ (j : Nat) l l' (s : ByteArray), j + 1 < n → L[j]? = some l → L[j + 1]? = some l' → l'[0]? = some s → width < (jlen l : Int) + 1 + s.size) : GP L width n := ⟨h1, h2⟩

set_option maxHeartbeats 1600000 in
theorem kwant_any (a : Option Addr) (len cap : Nat) (L : List (List ByteArray)) (width : Int) (w : World) (hs : Strss w a len cap L) (hK : KSL L) (hw1 : width ≤ 9223372036854775807) (hw0 : -9223372036854775808 ≤ width) :
    Calls Ydlm.prog 25 #[.slice a len cap, .int .i64 width] w fun e w' => RetB e (GP L width len) ∧ Below w.heap.size w w' := by
  have hle := hs.le
  have hmx := hs.max
  have hl := hide hs.hlen
  unfold maxLen at hmx
  have HK := hide hK
  have hl1 : len ≤ 1024 := by have := hK.1; have := unhide hl; omega
  clear hK
  go_enter Ydlm.func25, Ydlm.ntmps25
  go_wp2
  go_loop [10] (fun i => ∃ (k : Nat), k ≤ len ∧ i = .int .i64 k ∧ Hid (∀ (j : Nat) l, j < k → L[j]? = some l → l ≠ [] ∧ (jlen l : Int) ≤ width)) (fun i => len - (intOf i).toNat)
  case atStart => exact ⟨0, Nat.zero_le _, rfl, fun j l h => absurd h (Nat.not_lt_zero _)⟩
  case round =>
    obtain ⟨k, hk, rfl, HG⟩ := hrel
    by_cases hlt : k < len
    · obtain ⟨b, off, a', len', cap', ss, rfl, hss, hbl, hc, hS⟩ := hs.nth k hlt
      have hl1 := hide hS.hlen
      have hl2 := hS.le
      have hl3 := hS.max
      unfold maxLen at hl3
      have hks := (unhide HK).2 ss (List.mem_of_getElem? hss)
      have HSS := hide hss
      clear hss
      by_cases hr0 : len' < 1
      · have R := hide (GP.no_first (width := width) (unhide HSS) hlt (.inl (List.eq_nil_of_length_eq_zero (by have := unhide hl1; omega))))
        clear hks hS
        go_wp2
        go_ret
        exact ⟨retB_false (unhide R), Below.refl _ _⟩
      · have hj := hks.jlen
        have h0' : ((len' : Int) == 0) = false := by simp; omega
        have hne : Hid (ss ≠ []) := fun h => by have := unhide hl1; rw [h] at this; simp at this; omega
        by_cases hf : (jlen ss : Int) ≤ width
        · go_wp2_with (go_at_call 26; refine (kjoined_any _ _ _ ss _ hS hks).mono ?_; rintro e w' ⟨rfl, hw⟩; obtain rfl := hw.symm)
          go_round
          case rel =>
            refine ⟨k + 1, by omega, by go_num, fun j l hj hjl => ?_⟩
            by_cases hjk : j < k
            · exact unhide HG j l hjk hjl
            · obtain rfl : j = k := by omega
              have h1 := unhide HSS
              rw [hjl] at h1
              obtain rfl := Option.some.inj h1
              exact ⟨unhide hne, hf⟩
          case measure => simp [intOf]; omega
        · have R := hide (GP.no_first (width := width) (unhide HSS) hlt (.inr (by omega)))
          go_wp2_with (go_at_call 26; refine (kjoined_any _ _ _ ss _ hS hks).mono ?_; rintro e w' ⟨rfl, hw⟩; obtain rfl := hw.symm)
          go_ret
          exact ⟨retB_false (unhide R), Below.refl _ _⟩
    · have HG1 : Hid (∀ (j : Nat) l, j < len → L[j]? = some l → l ≠ [] ∧ (jlen l : Int) ≤ width) := fun j l hj => unhide HG j l (by omega)
      clear HG
      go_wp2
      go_loopw [7] (fun i wr => ∃ (q : Nat), (q = 0 ∨ q + 1 ≤ len) ∧ i = .int .i64 q ∧ Hid (∀ (j : Nat) l l' (s : ByteArray), j < q → L[j]? = some l → L[j + 1]? = some l' → l'[0]? = some s → width < (jlen l : Int) + 1 + s.size) ∧ Below w.heap.size w wr) (fun i _ => len - (intOf i).toNat)
      case atStart => exact ⟨0, .inl rfl, rfl, fun j l l' s h => absurd h (Nat.not_lt_zero _), Below.refl _ _⟩
      case round =>
        obtain ⟨q, hq, rfl, HP, hbr⟩ := hrel
        by_cases hltq : q + 1 < len
        · obtain ⟨b, off, a', len', cap', ss, rfl, hss, hbl, hc, hS⟩ := (hs.below hbr).nth q (by omega)
          obtain ⟨b2, off2, a2, len2, cap2, ss2, hab, hss2, hbl2, hc2, hS2⟩ := (hs.below hbr).nth (q + 1) (by omega)
          simp at hab
          obtain ⟨rfl, rfl⟩ := hab
          have hks := (unhide HK).2 ss (List.mem_of_getElem? hss)
          have hks2 := (unhide HK).2 ss2 (List.mem_of_getElem? hss2)
          have hj := hks.jlen
          have hn2 := (unhide HG1 (q + 1) ss2 (by omega) hss2).1
          have hp2 : 0 < len2 := by have h1 := hS2.hlen; have h2 := List.length_pos_iff.2 hn2; omega
          obtain ⟨b3, off3, s3, rfl, hs3, -, hbl3, hc3⟩ := hS2.first hp2
          have hs3z : s3.size ≤ 1048576 := hks2.2 s3 (List.mem_of_getElem? hs3)
          have HSS := hide hss
          have HSS2 := hide hss2
          have HS3 := hide hs3
          clear hss hss2 hs3 hn2 hks2
          have hmx2 := hS2.max
          have hle2 := hS2.le
          unfold maxLen at hmx2
          have HSd := hide (fun n => strs_drewN hS n)
          have HKS := hide hks
          clear hks hS hS2
          have hi1 : (0 : Int) ≤ (q : Int) := by omega
          have hi2 : (q : Int) < (len : Int) := by omega
          have hi3 : (0 : Int) ≤ (q : Int) + 1 := by omega
          have hi4 : (q : Int) + 1 < (len : Int) := by omega
          have hi5 : (0 : Int) < (len2 : Int) := by omega
          by_cases hf : (jlen ss : Int) + 1 + s3.size ≤ width
          · have R := hide (GP.no_second (n := len) (k := q) (width := width) (unhide HSS) (unhide HSS2) (unhide HS3) (by omega) hf)
            go_wp2_with fail
            go_quiet ((go_at_call 26; exact Calls.quiet_of_same (kjoined_any _ _ _ ss _ (unhide HSd _) (unhide HKS))))
            go_wp2
            go_ret
            exact ⟨retB_false (unhide R), below_drewN hbr _⟩
          · go_wp2_with fail
            go_quiet ((go_at_call 26; exact Calls.quiet_of_same (kjoined_any _ _ _ ss _ (unhide HSd _) (unhide HKS))))
            go_wp2
            go_roundw
            case rel =>
              refine ⟨q + 1, by omega, by go_num, fun j l l' s hj hjl hjl' hjs => ?_, below_drewN hbr _⟩
              by_cases hjq : j < q
              · exact unhide HP j l l' s hjq hjl hjl' hjs
              · obtain rfl : j = q := by omega
                have h1 := unhide HSS
                rw [hjl] at h1
                obtain rfl := Option.some.inj h1
                have h2 := unhide HSS2
                rw [hjl'] at h2
                obtain rfl := Option.some.inj h2
                have h3 := unhide HS3
                rw [hjs] at h3
                obtain rfl := Option.some.inj h3
                omega
            case measure => simp [intOf]; omega
        · have R := hide (GP.of_parts (unhide HG1) (fun j l l' s hj => unhide HP j l l' s (by omega)))
          go_wp2
          go_ret
          exact ⟨retB_true (unhide R), hbr⟩
end Go.Proofs.Ymbrdl
