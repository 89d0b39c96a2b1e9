import Derived.Test.YmbrdkSplitLines
import Derived.Deep.QuietTactic
import Derived.BigQuiet
set_option linter.unusedSimpArgs false
set_option linter.unusedVariables false
namespace Go.Proofs.Ymbrdk
open Go.RowKit

theorem texts_inj : ∀ {a b : List ByteArray}, texts a = texts b → a = b
  | [], [], _ => rfl
  | [], y :: b, h => by simp [texts] at h
  | x :: a, [], h => by simp [texts] at h
  | x :: a, y :: b, h => by
    have h1 : x.data.toList = y.data.toList ∧ texts a = texts b := by simpa [texts] using h
    rw [WideShapes.bytes_inj h1.1, texts_inj h1.2]

theorem split_concat (b : List UInt8) : ∀ (a cur : List UInt8), splitGo cur (a ++ 10 :: b) = splitGo cur (a ++ [10]) ++ splitGo [] b
  | [], cur => by
    have h10 : (10 : UInt8).toNat = 10 := rfl
    rw [List.nil_append, List.nil_append, splitGo_nl _ _ _ h10, splitGo_nl _ _ _ h10, splitGo_end, if_pos rfl]; rfl
  | c :: a, cur => by
    rw [List.cons_append, List.cons_append]
    by_cases h : c.toNat = 10
    · rw [splitGo_nl _ _ _ h, splitGo_nl _ _ _ h, split_concat b a]; rfl
    · rw [splitGo_other _ _ _ h, splitGo_other _ _ _ h, split_concat b a]
theorem split_nl_ne : ∀ (a cur : List UInt8), splitGo cur (a ++ [10]) ≠ []
  | [], cur => by
    have h10 : (10 : UInt8).toNat = 10 := rfl
    rw [List.nil_append, splitGo_nl _ _ _ h10]; simp
  | c :: a, cur => by
    rw [List.cons_append]
    by_cases h : c.toNat = 10
    · rw [splitGo_nl _ _ _ h]; simp
    · rw [splitGo_other _ _ _ h]; exact split_nl_ne a _

set_option maxHeartbeats 1600000 in
theorem gConcat_walk (a0 a1 : ByteArray) (w : World) (w0 : a0.size ≤ maxLen) (w1 : a1.size ≤ maxLen) :
    Calls Ydkm.prog 11 #[.string a0, .string a1] w fun e w' => e = .returned (.bool true) ∧ Below w.heap.size w w' := by
  unfold maxLen at w0 w1
  by_cases hb0 : 32768 < a0.size
  · go_enter Ydkm.func11, Ydkm.ntmps11
    go_wp2
    go_ret
    exact ⟨rfl, Below.refl _ _⟩
  by_cases hb1 : 32768 < a1.size
  · go_enter Ydkm.func11, Ydkm.ntmps11
    go_wp2
    go_ret
    exact ⟨rfl, Below.refl _ _⟩
  have hsz1 : (a0 ++ (⟨#[10]⟩ : ByteArray)).size = a0.size + 1 := by rw [ByteArray.size_append]; rfl
  have hsz2 : (a0 ++ (⟨#[10]⟩ : ByteArray) ++ a1).size = a0.size + 1 + a1.size := by rw [ByteArray.size_append, hsz1]
  have HS1 := hide hsz1
  have HS2 := hide hsz2
  clear hsz1 hsz2
  go_enter Ydkm.func11, Ydkm.ntmps11
  go_wp2_with fail
  refine (splitLines_any _ _ (by have := unhide HS1; omega)).mono ?_
  rintro e x1 ⟨v1, ph, rfl, ho1, HT1, hl1, hz1, hbx1, -⟩
  go_wp2_with fail
  refine (splitLines_any _ _ (by omega)).mono ?_
  rintro e x2 ⟨v2, pt, rfl, ho2, HT2, hl2, hz2, hbx2, -⟩
  go_wp2_with fail
  refine (splitLines_any _ _ (by have := unhide HS2; omega)).mono ?_
  rintro e x3 ⟨v3, pw, rfl, ho3, HT3, hl3, hz3, hbx3, -⟩
  obtain rfl : pw = ph ++ pt := by
    apply texts_inj
    rw [texts_append, unhide HT1, unhide HT2, unhide HT3]
    have e1 : (a0 ++ (⟨#[10]⟩ : ByteArray) ++ a1).data.toList = a0.data.toList ++ 10 :: a1.data.toList := by simp
    have e2 : (a0 ++ (⟨#[10]⟩ : ByteArray)).data.toList = a0.data.toList ++ [10] := by simp
    rw [e1, e2, split_concat]
  have hne : ph ≠ [] := fun h => by
    have h1 := unhide HT1
    rw [h] at h1
    have e2 : (a0 ++ (⟨#[10]⟩ : ByteArray)).data.toList = a0.data.toList ++ [10] := by simp
    rw [e2] at h1
    exact split_nl_ne _ _ h1.symm
  have hp := List.length_pos_iff.2 hne
  rw [unhide HS1] at hl1 hz1
  rw [unhide HS2] at hl3 hz3
  obtain ⟨b1, c1, rfl, hS1, -⟩ := Own.strs (ho1.below (hbx2.trans (hbx3.mono hbx2.size))) (fun s h => by have := hz1 s h; unfold maxLen; omega)
  obtain ⟨b2, c2, rfl, hS2, -⟩ := Own.strs (ho2.below hbx3) (fun s h => by have := hz2 s h; unfold maxLen; omega)
  obtain ⟨b3, c3, rfl, hS3, -⟩ := Own.strs ho3 (fun s h => by have := hz3 s h; unfold maxLen; omega)
  have hbx := (hbx1.trans (hbx2.mono hbx1.size)).trans (hbx3.mono (Nat.le_trans hbx1.size hbx2.size))
  have hbel := hide hbx
  clear ho1 ho2 ho3 hbx1 hbx2 hbx3 hz1 hz2 hz3 HT1 HT2 HT3 hne hbx
  rw [List.length_append] at hS3 hl3 ⊢
  have HG1 : ∀ (k : Nat) s, ph[k]? = some s → (ph ++ pt)[k]? = some s := fun k s h => by
    rw [List.getElem?_append_left (List.getElem?_eq_some_iff.1 h).1]; exact h
  have HG2 : ∀ (k : Nat) s, pt[k]? = some s → (ph ++ pt)[ph.length + k]? = some s := fun k s h => by
    rw [List.getElem?_append_right (by omega), Nat.add_sub_cancel_left]; exact h
  generalize ph.length = n1 at *
  generalize pt.length = n2 at *
  have hq1 : ((n1 : Int) == 0) = false := by simp; omega
  have hq2 : (((n1 + n2 : Nat) : Int) != (n1 : Int) + (n2 : Int)) = false := by simp
  have H1 := hide HG1
  have H2 := hide HG2
  clear HG1 HG2
  go_wp2
  go_loopw [8] (fun i wr => ∃ k : Nat, k ≤ n1 ∧ i = .int .i64 k ∧ Below x3.heap.size x3 wr) (fun i _ => n1 - (intOf i).toNat)
  case atStart => exact ⟨0, Nat.zero_le _, rfl, Below.refl _ _⟩
  case round =>
    obtain ⟨k, hk, rfl, hbr⟩ := hrel
    by_cases hlt : k < n1
    · obtain ⟨b4, off4, s4, rfl, hs4, -, hbl4, hc4⟩ := (hS1.below hbr).nth k hlt
      obtain ⟨b5, off5, s5, rfl, hs5, -, hbl5, hc5⟩ := (hS3.below hbr).nth k (by omega)
      obtain rfl : s5 = s4 := by rw [unhide H1 k s4 hs4] at hs5; exact (Option.some.inj hs5).symm
      clear hs4 hs5
      have hi2 : (k : Int) < (n1 : Int) + (n2 : Int) := by omega
      go_wp2_with fail
      go_quiet (fail)
      go_wp2
      go_roundw
      case rel => exact ⟨k + 1, by omega, by go_num, below_drewN hbr _⟩
      case measure => simp [intOf]; omega
    · skip
      go_wp2
      go_loopw [9] (fun i wr => ∃ k : Nat, k ≤ n2 ∧ i = .int .i64 k ∧ Below x3.heap.size x3 wr) (fun i _ => n2 - (intOf i).toNat)
      case atStart => exact ⟨0, Nat.zero_le _, rfl, hbr⟩
      case round =>
        obtain ⟨q, hq, rfl, hbr2⟩ := hrel
        by_cases hlt2 : q < n2
        · obtain ⟨b4, off4, s4, rfl, hs4, -, hbl4, hc4⟩ := (hS2.below hbr2).nth q hlt2
          obtain ⟨b5, off5, s5, rfl, hs5, -, hbl5, hc5⟩ := (hS3.below hbr2).nth (n1 + q) (by omega)
          obtain rfl : s5 = s4 := by rw [unhide H2 q s4 hs4] at hs5; exact (Option.some.inj hs5).symm
          clear hs4 hs5
          have hi1 : (0 : Int) ≤ (n1 : Int) + (q : Int) := by omega
          have hi2 : (n1 : Int) + (q : Int) < (n1 : Int) + (n2 : Int) := by omega
          have hi3 : ((n1 : Int) + (q : Int)).toNat = n1 + q := by omega
          go_wp2_with fail
          go_quiet (fail)
          go_wp2
          go_roundw
          case rel => exact ⟨q + 1, by omega, by go_num, below_drewN hbr2 _⟩
          case measure => simp [intOf]; omega
        · have HB := hide ((unhide hbel).trans (hbr2.mono (unhide hbel).size))
          go_wp2
          go_ret
          exact ⟨rfl, unhide HB⟩
end Go.Proofs.Ymbrdk
