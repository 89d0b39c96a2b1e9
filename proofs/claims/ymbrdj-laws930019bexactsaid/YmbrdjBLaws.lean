import Derived.Test.YmbrdjJustify2
set_option linter.unusedSimpArgs false
set_option linter.unusedVariables false
namespace Go.Proofs.Ymbrdj
open Go.RowKit

theorem jpre_tight {ss : List ByteArray} {n : Nat} (hn : ss.length = n + 1) : ∀ k, k ≤ n + 1 → jpre ss n 0 0 k = wordsL (ss.take k) ++ (if 0 < k ∧ k ≤ n then [32] else [])
  | 0, _ => by simp [jpre, wordsL]
  | k + 1, hk => by
    have hs : ss[k]? = some (ss[k]'(by omega)) := List.getElem?_eq_getElem _
    rw [jpre_succ hs, jpre_tight hn k (by omega), wordsL_take_succ hs, if_neg (Nat.not_lt_zero k), spaces_zero, List.append_nil]
    have e1 : (if 0 < k ∧ k ≤ n then [32] else []) = (if k = 0 then [] else [(32 : UInt8)]) := by
      by_cases h0 : k = 0
      · rw [if_neg (by omega), if_pos h0]
      · rw [if_pos (by omega), if_neg h0]
    have e2 : spaces (if k < n then 1 + 0 else 0) = (if 0 < k + 1 ∧ k + 1 ≤ n then [32] else []) := by
      by_cases h0 : k < n
      · rw [if_pos h0, if_pos (by omega)]; rfl
      · rw [if_neg h0, if_neg (by omega)]; rfl
    rw [e1, e2, List.append_assoc (wordsL _)]
theorem jus_tight (ss : List ByteArray) : jusL ss (jlen ss) = wordsL ss := by
  unfold jusL
  split
  · unfold alignL
    rw [wordsL_length]; simp [befN, spaces]
  · rename_i h
    obtain ⟨n, hn⟩ : ∃ n, ss.length = n + 1 := ⟨ss.length - 1, by omega⟩
    have e : jlen ss - jlen ss = 0 := by omega
    rw [e, Nat.zero_div, Nat.zero_mod, hn, Nat.add_sub_cancel, jpre_tight hn (n + 1) (Nat.le_refl _), if_neg (by omega), List.append_nil, List.take_of_length_le (by omega)]

set_option maxHeartbeats 1600000 in
theorem bTight_walk (a0 : Option Addr) (len0 cap0 : Nat) (z0 : List ByteArray) (w : World) (w0 : Strs w a0 len0 cap0 z0) :
    Calls Ydjm.prog 8 #[.slice a0 len0 cap0] w fun e w' => e = .returned (.bool true) ∧ Below w.heap.size w w' := by
  have hl := hide w0.hlen
  go_enter Ydjm.func8, Ydjm.ntmps8
  go_wp2_with fail
  refine (bjoined_any _ _ _ z0 _ w0).mono ?_
  rintro e w' ⟨hx, hw⟩
  obtain rfl := hw.symm
  rcases hx with ⟨hn, rfl⟩ | ⟨hsm, rfl⟩
  · go_wp2
    go_ret
    exact ⟨rfl, Below.refl _ _⟩
  obtain ⟨hs1, hs2⟩ := hsm
  have hs3 : len0 ≤ 1024 := by have := unhide hl; omega
  have hjb : jlen z0 ≤ 33791 := by unfold jlen; omega
  go_wp2_with fail
  refine (justify_yes _ _ _ z0 _ _ w0 (by omega) (by omega) (by omega)).mono ?_
  rintro e x1 ⟨r1, rfl, HR1, HZ1, hb1⟩
  have W1 := w0.below hb1
  go_wp2_with fail
  refine (joinWords_any _ _ _ z0 _ W1 (by omega)).mono ?_
  rintro e x2 ⟨r2, rfl, HR2, hb2⟩
  obtain rfl : r2 = r1 := by
    apply WideShapes.bytes_inj
    rw [unhide HR2, unhide HR1, Int.toNat_natCast, jus_tight]
  have W2 := W1.below hb2
  have hbx := hb1.trans (hb2.mono hb1.size)
  clear HR1 HZ1 HR2 hb1 hb2 W1
  go_wp2_with fail
  refine (justify_no _ _ _ z0 _ _ W2 (by omega) (by omega) (by omega)).mono ?_
  rintro e x3 ⟨rfl, hb3⟩
  have HB := hide (hbx.trans (hb3.mono hbx.size))
  clear hbx hb3
  go_wp2
  go_ret
  exact ⟨rfl, unhide HB⟩

set_option maxHeartbeats 1600000 in
theorem verdict_core (a0 : Option Addr) (len0 cap0 : Nat) (z0 : List ByteArray) (width : Int) (w : World) (w0 : Strs w a0 len0 cap0 z0) (hs : BSm z0) (h1 : width ≤ 9223372036854775807) :
    Calls Ydjm.prog 18 #[.slice a0 len0 cap0, .int .i64 width] w fun e w' => ((jlen z0 : Int) ≤ width ∧ width ≤ 65536 ∧ ∃ r : ByteArray, e = .returned (.tuple #[.string r, .bool true]) ∧ (r.size : Int) = width ∧ Below w.heap.size w w') ∨ (¬ ((jlen z0 : Int) ≤ width ∧ width ≤ 65536) ∧ e = .returned (.tuple #[.string ⟨#[]⟩, .bool false]) ∧ Below w.heap.size w w') := by
  have hl := w0.hlen
  have hs1 := hs.1
  have hs2 := hs.2
  by_cases h : (jlen z0 : Int) ≤ width ∧ width ≤ 65536
  · refine (justify_yes _ _ _ z0 _ _ w0 (by omega) h.1 h.2).mono ?_
    rintro e x1 ⟨r1, rfl, HR1, HZ1, hb1⟩
    exact .inl ⟨h.1, h.2, r1, rfl, by have := unhide HZ1; omega, hb1⟩
  · refine (justify_no _ _ _ z0 _ _ w0 (by omega) h1 (by omega)).mono ?_
    rintro e x1 ⟨rfl, hb1⟩
    exact .inr ⟨h, rfl, hb1⟩
end Go.Proofs.Ymbrdj
