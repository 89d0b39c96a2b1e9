import Derived.Test.YmbrdlKLaws
set_option linter.unusedSimpArgs false
set_option linter.unusedVariables false
namespace Go.Proofs.Ymbrdl
open Go.RowKit

theorem same_truth {b c : Bool} {p : Prop} (hb : b = true ↔ p) (hc : c = true ↔ p) : b = c := by
  cases b <;> cases c <;> simp_all

set_option maxHeartbeats 800000 in
theorem kExact_walk (a0 : Option Addr) (len0 cap0 : Nat) (z0 : List (List ByteArray)) (a1 : Int) (w : World) (w0 : Strss w a0 len0 cap0 z0) (w1 : (Lit.int .i64 a1).wf = true) :
    Calls Ydlm.prog 9 #[.slice a0 len0 cap0, .int .i64 a1] w fun e w' => e = .returned (.bool true) ∧ Below w.heap.size w w' := by
  obtain ⟨hb1, hb2⟩ := bounds_i64 w1
  clear w1
  go_enter Ydlm.func9, Ydlm.ntmps9
  go_wp2_with fail
  refine (kbigLines_any _ _ _ z0 _ w0).mono ?_
  rintro e w' ⟨hx, hw⟩
  obtain rfl := hw.symm
  rcases hx with ⟨hn, rfl⟩ | ⟨hsm, rfl⟩
  · go_wp2
    go_ret
    exact ⟨rfl, Below.refl _ _⟩
  have HK := hide hsm
  clear hsm
  go_wp2_with fail
  refine (isGreedy_any _ _ _ z0 _ _ w0 hb2 hb1).mono ?_
  rintro e w' ⟨hr, hw⟩
  obtain rfl := hw.symm
  obtain ⟨b, rfl, hb⟩ := hr.out
  have HB := hide hb
  clear hb hr
  go_wp2_with fail
  refine (kwant_any _ _ _ z0 _ _ w0 (unhide HK) hb2 hb1).mono ?_
  rintro e w2 ⟨hr, hbel⟩
  obtain ⟨c, rfl, hc⟩ := hr.out
  obtain rfl := same_truth (unhide HB) hc
  clear hc hr
  go_wp2
  go_ret
  exact ⟨ret_bool (by simp), hbel⟩

theorem tight_no {L : List (List ByteArray)} {n m : Nat} (hn : L.length = n) (h1 : ∀ (j : Nat) l, j < n → L[j]? = some l → jlen l ≤ m) (h2 : m = 0 ∨ ∃ (j : Nat) (l : List ByteArray), j < n ∧ L[j]? = some l ∧ jlen l = m) : GP L ((m : Int) - 1) n ↔ n = 0 := by
  constructor
  · intro hg
    rcases Nat.eq_zero_or_pos n with h0 | h0
    · exact h0
    · exfalso
      rcases h2 with h2 | ⟨j, l, hj, hl, hm⟩
      · have hl : L[0]? = some (L[0]'(by omega)) := List.getElem?_eq_getElem _
        have := (hg.1 0 _ h0 hl).2
        omega
      · have := (hg.1 j l hj hl).2
        omega
  · rintro rfl
    exact GP.zero _ _

set_option maxHeartbeats 1600000 in
theorem kTight_walk (a0 : Option Addr) (len0 cap0 : Nat) (z0 : List (List ByteArray)) (a1 : Int) (w : World) (w0 : Strss w a0 len0 cap0 z0) (w1 : (Lit.int .u8 a1).wf = true) :
    Calls Ydlm.prog 10 #[.slice a0 len0 cap0, .int .u8 a1] w fun e w' => e = .returned (.bool true) ∧ Below w.heap.size w w' := by
  obtain ⟨hb1, hb2⟩ := bounds_u8 w1
  clear w1
  have hle := w0.le
  have hmx := w0.max
  have hl := hide w0.hlen
  unfold maxLen at hmx
  go_enter Ydlm.func10, Ydlm.ntmps10
  go_wp2_with fail
  refine (kbigLines_any _ _ _ z0 _ w0).mono ?_
  rintro e w' ⟨hx, hw⟩
  obtain rfl := hw.symm
  rcases hx with ⟨hn, rfl⟩ | ⟨hsm, rfl⟩
  · go_wp2
    go_ret
    exact ⟨rfl, Below.refl _ _⟩
  have HK := hide hsm
  clear hsm
  go_wp2
  go_loop [5, 14] (fun x i => ∃ (k m : Nat), k ≤ len0 ∧ i = .int .i64 k ∧ x = .int .i64 m ∧ m ≤ 1073742848 ∧ Hid (∀ (j : Nat) l, j < k → z0[j]? = some l → jlen l ≤ m) ∧ Hid (m = 0 ∨ ∃ (j : Nat) (l : List ByteArray), j < k ∧ z0[j]? = some l ∧ jlen l = m)) (fun _ i => len0 - (intOf i).toNat)
  case atStart => exact ⟨0, 0, Nat.zero_le _, rfl, rfl, by omega, fun j l h => absurd h (Nat.not_lt_zero _), .inl rfl⟩
  case round =>
    obtain ⟨k, m, hk, rfl, rfl, hm, H1, H2⟩ := hrel
    by_cases hlt : k < len0
    · obtain ⟨b, off, a', len', cap', ss, rfl, hss, hbl, hc, hS⟩ := w0.nth k hlt
      have hks := (unhide HK).2 ss (List.mem_of_getElem? hss)
      have hj := hks.jlen
      have HSS := hide hss
      clear hss
      by_cases hmj : m < jlen ss
      · go_wp2_with (go_at_call 26; refine (kjoined_any _ _ _ ss _ hS hks).mono ?_; rintro e w' ⟨rfl, hw⟩; obtain rfl := hw.symm)
        go_round
        case rel =>
          refine ⟨k + 1, jlen ss, by omega, by go_num, rfl, hj, fun j l hjk hjl => ?_, .inr ⟨k, ss, by omega, unhide HSS, rfl⟩⟩
          by_cases hjk' : j < k
          · have := unhide H1 j l hjk' hjl; omega
          · obtain rfl : j = k := by omega
            have h1 := unhide HSS
            rw [hjl] at h1
            obtain rfl := Option.some.inj h1
            exact Nat.le_refl _
        case measure => simp [intOf]; omega
      · go_wp2_with (go_at_call 26; refine (kjoined_any _ _ _ ss _ hS hks).mono ?_; rintro e w' ⟨rfl, hw⟩; obtain rfl := hw.symm)
        go_round
        case rel =>
          refine ⟨k + 1, m, by omega, by go_num, rfl, hm, fun j l hjk hjl => ?_, ?_⟩
          · by_cases hjk' : j < k
            · exact unhide H1 j l hjk' hjl
            · obtain rfl : j = k := by omega
              have h1 := unhide HSS
              rw [hjl] at h1
              obtain rfl := Option.some.inj h1
              omega
          · rcases unhide H2 with h | ⟨j, l, hj, hl', hm'⟩
            · exact .inl h
            · exact .inr ⟨j, l, by omega, hl', hm'⟩
        case measure => simp [intOf]; omega
    · have T := hide (tight_no (m := m) (unhide hl) (fun j l hj => unhide H1 j l (by omega)) (by
        rcases unhide H2 with h | ⟨j, l, hj, hl', hm'⟩
        · exact .inl h
        · exact .inr ⟨j, l, by omega, hl', hm'⟩))
      clear H1 H2
      obtain ⟨r, hr, hr5⟩ : ∃ r : Nat, a1 % 8 = (r : Int) ∧ r < 8 := ⟨(a1 % 8).toNat, by omega, by omega⟩
      go_wp2_with fail
      refine (isGreedy_any _ _ _ z0 _ _ w0 (by omega) (by omega)).mono ?_
      rintro e w' ⟨hr, hw⟩
      obtain rfl := hw.symm
      obtain ⟨b, rfl, hb⟩ := hr.out
      have hbe : b = ((len0 : Int) == 0) := by
        have h1 := hb.trans (unhide T)
        cases b
        · simp at h1 ⊢; omega
        · simp at h1 ⊢; omega
      subst hbe
      clear hb hr
      have hq : (((len0 : Int) == 0) != ((len0 : Int) == 0)) = false := by simp
      go_wp2_with fail
      refine (isGreedy_any _ _ _ z0 _ _ w0 (by omega) (by omega)).mono ?_
      rintro e w' ⟨hr, hw⟩
      obtain rfl := hw.symm
      obtain ⟨b, rfl, hb⟩ := hr.out
      have HB := hide hb
      clear hb hr
      go_wp2_with fail
      refine (kwant_any _ _ _ z0 _ _ w0 (unhide HK) (by omega) (by omega)).mono ?_
      rintro e w2 ⟨hr, hbel⟩
      obtain ⟨c, rfl, hc⟩ := hr.out
      obtain rfl := same_truth (unhide HB) hc
      clear hc hr HB
      have W2 := w0.below hbel
      have hq2 : (b != b) = false := by simp
      go_wp2_with fail
      refine (isGreedy_any _ _ _ z0 _ _ W2 (by omega) (by omega)).mono ?_
      rintro e w' ⟨hr, hw⟩
      obtain rfl := hw.symm
      obtain ⟨b, rfl, hb⟩ := hr.out
      have HB := hide hb
      clear hb hr
      go_wp2_with fail
      refine (kwant_any _ _ _ z0 _ _ W2 (unhide HK) (by omega) (by omega)).mono ?_
      rintro e w3 ⟨hr, hbel3⟩
      obtain ⟨c, rfl, hc⟩ := hr.out
      obtain rfl := same_truth (unhide HB) hc
      have HBW := hide (hbel.trans (hbel3.mono hbel.size))
      clear hc hr HB hbel hbel3
      go_wp2
      go_ret
      exact ⟨ret_bool (by simp), unhide HBW⟩
end Go.Proofs.Ymbrdl
