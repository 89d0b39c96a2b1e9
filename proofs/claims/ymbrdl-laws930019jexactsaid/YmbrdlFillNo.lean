import Derived.Test.YmbrdlFill
set_option linter.unusedSimpArgs false
set_option linter.unusedVariables false
namespace Go.Proofs.Ymbrdl
open Go.RowKit

theorem szs_boundF (ss : List ByteArray) (B : Nat) (h : ∀ s ∈ ss, s.size ≤ B) : szs ss ≤ ss.length * B := by
  induction ss with
  | nil => simp [szs]
  | cons s t ih =>
    have e2 : szs (s :: t) = s.size + szs t := by simp [szs]
    have h1 := ih (fun x hx => h x (by simp [hx]))
    have h2 := h s (by simp)
    rw [e2, List.length_cons, Nat.add_mul]
    omega

set_option maxHeartbeats 3000000 in
theorem fill_no (s : ByteArray) (width mode : Int) (w : World) (hs : s.size ≤ 4096) (hw1 : width ≤ 9223372036854775807) (hw0 : -9223372036854775808 ≤ width)
    (hne : wsOf s.data.toList ≠ []) (hmode : (∃ x ∈ wsOf s.data.toList, width < (x.size : Int)) ∨ 65536 < width ∨ mode < 0 ∨ 3 < mode) :
    Calls Ydlm.prog 20 #[.string s, .int .i64 width, .int .i64 mode] w fun e w' => e = .returned (.tuple #[.string ⟨#[]⟩, .bool false]) ∧ Below w.heap.size w w' := by
  have HM := hide hmode
  have HNE := hide hne
  clear hmode hne
  go_enter Ydlm.func20, Ydlm.ntmps20
  go_wp2_with fail
  refine (fields_any _ _ (by omega)).mono ?_
  rintro e x1 ⟨v1, ps, rfl, ho1, HT1, hpl, hz1, hb1⟩
  obtain rfl : ps = wsOf s.data.toList := wsOf_eq (unhide HT1)
  obtain ⟨a1, c1, rfl, hS1, -⟩ := Own.strs ho1 (fun x h => by have := hz1 x h; unfold maxLen; omega)
  have HZ1 : Hid (∀ x ∈ wsOf s.data.toList, x.size ≤ s.size) := hz1
  clear HT1 ho1 hz1
  generalize hws : wsOf s.data.toList = ws at *
  clear hws
  generalize hn1 : ws.length = n1 at *
  have HN1 := hide hn1
  clear hn1
  go_wp2_with fail
  refine (wrap_any _ _ _ ws _ _ hS1 hw1 hw0 (by omega)).mono ?_
  rintro e x2 ⟨⟨v2, rfl, hf2, hW⟩ | ⟨rfl, x, hx, hlt⟩, hb2⟩
  · obtain ⟨hgp, hfl⟩ := wrapL_spec width ws hf2
    have hbad : Hid (65536 < width ∨ mode < 0 ∨ 3 < mode) := by
      rcases unhide HM with ⟨x, hx, h⟩ | h
      · have := hf2 x hx; omega
      · exact h
    generalize hwr : wrapL width ws = L at *
    clear hwr
    have hZ : ∀ l ∈ L, ∀ x ∈ l, x.size ≤ s.size := fun l hl x hx => unhide HZ1 x (by rw [← hfl]; exact List.mem_flatten.2 ⟨l, hl, hx⟩)
    obtain ⟨a2, c2, rfl, hSS, -⟩ := hW.strss (fun l hl x hx => by have := hZ l hl x hx; unfold maxLen; omega)
    have hpos : 0 < L.length := by
      rcases Nat.eq_zero_or_pos L.length with h | h
      · rw [List.eq_nil_of_length_eq_zero h] at hfl
        exact absurd hfl.symm (unhide HNE)
      · exact h
    have hln : L.length ≤ s.size := by
      have h1 := GP.len_le hgp
      rw [hfl, unhide HN1] at h1
      omega
    have HLL : Hid (∀ l, L[0]? = some l → szs l + l.length ≤ 4294967296) := fun l hl => by
      have h1 : ∀ x ∈ l, x.size ≤ s.size := hZ l (List.mem_of_getElem? hl)
      have h2 := szs_boundF l 4096 (fun x hx => Nat.le_trans (h1 x hx) hs)
      have h3 : l.length ≤ 4096 := by
        have h4 : l.length ≤ L.flatten.length := by
          obtain ⟨R, rfl⟩ : ∃ R, L = l :: R := by
            cases L with
            | nil => simp at hl
            | cons a R => simp at hl; subst hl; exact ⟨R, rfl⟩
          rw [List.flatten_cons, List.length_append]; omega
        rw [hfl, unhide HN1] at h4
        omega
      have h5 : l.length * 4096 ≤ 4096 * 4096 := Nat.mul_le_mul h3 (Nat.le_refl _)
      omega
    have hB1 := hide (hb1.trans (hb2.mono hb1.size))
    clear hW hf2 hgp hfl HM hS1 HN1 HZ1 hZ hb1 hb2
    generalize hnn : L.length = n at *
    have HN := hide hnn
    clear hnn
    have hSm := hSS.max
    have hSl := hSS.le
    unfold maxLen at hSm
    go_wp2
    go_loopw [9, 10, 25] (fun ok v i wr => ∃ k : Nat, Hid (k = 0) ∧ k < n ∧ ok = .bool true ∧ i = .int .i64 k ∧ v = .slice none 0 0 ∧ wr = x2) (fun _ _ i _ => n - (intOf i).toNat)
    case atStart => exact ⟨0, rfl, hpos, rfl, rfl, rfl, rfl⟩
    case round =>
      obtain ⟨k, HK, hkn, rfl, rfl, rfl, rfl⟩ := hrel
      obtain ⟨b, off, a', len', cap', ss, rfl, hl, hbl, hc, hS⟩ := hSS.nth k hkn
      have hsm := unhide HLL ss (by rw [← unhide HK]; exact hl)
      rw [hS.hlen] at hsm
      have hwl := wordsL_length ss
      have HWL := hide hwl
      clear hl hwl
      have hSl2 := hS.le
      have hSm2 := hS.max
      unfold maxLen at hSm2
      generalize wr = X at *
      have hrz : ∀ r1 : ByteArray, r1.data.toList = wordsL ss → r1.size ≤ maxLen := fun r1 h => by
        have h1 := congrArg List.length h
        rw [unhide HWL, data_len] at h1
        unfold jlen at h1
        unfold maxLen
        have := hS.hlen
        omega
      have HRZ := hide hrz
      clear hrz
      by_cases hm3 : mode = 3
      · have hb1 : 65536 < width := by have := unhide hbad; omega
        subst hm3
        by_cases hmore : k + 1 < n
        · have hmb : decide (k + 1 < n) = true := by simp [hmore]
          go_wp2_with fail
          refine (justify_no _ _ _ ss _ _ hS hsm hw1 (.inr hb1)).mono ?_
          rintro e y2 ⟨rfl, hby2⟩
          have HB2 := hide ((unhide hB1).trans (hby2.mono (unhide hB1).size))
          clear hS hby2
          go_wp2
          go_ret2
          exact ⟨rfl, unhide HB2⟩
        · have hmb : decide (k + 1 < n) = false := by simp; omega
          go_wp2_with fail
          refine (joinWords_any _ _ _ ss _ hS hsm).mono ?_
          rintro e y1 ⟨r1, rfl, HR1, hby1⟩
          go_wp2_with fail
          refine (align_no r1 width 0 _ (unhide HRZ r1 (unhide HR1)) hw1 (.inr (.inl hb1))).mono ?_
          rintro e y2 ⟨rfl, hy2⟩
          obtain rfl := hy2.symm
          have HB2 := hide ((unhide hB1).trans (hby1.mono (unhide hB1).size))
          clear hS hby1
          go_wp2
          go_ret2
          exact ⟨rfl, unhide HB2⟩
      · have hmb : (mode != 3) = true := by simp [hm3]
        have hmb2 : (mode == 3) = false := by simp [hm3]
        have HM3 := hide hm3
        have HBAD : Hid (width < (0 : Nat) ∨ 65536 < width ∨ mode < 0 ∨ 2 < mode) := by have := unhide hbad; show _ ∨ _; omega
        go_wp2_with fail
        refine (joinWords_any _ _ _ ss _ hS hsm).mono ?_
        rintro e y1 ⟨r1, rfl, HR1, hby1⟩
        go_wp2_with fail
        refine (align_no r1 width mode _ (unhide HRZ r1 (unhide HR1)) hw1 (by have := unhide HBAD; omega)).mono ?_
        rintro e y2 ⟨rfl, hy2⟩
        obtain rfl := hy2.symm
        have HB2 := hide ((unhide hB1).trans (hby1.mono (unhide hB1).size))
        clear hS hby1
        go_wp2
        go_ret2
        exact ⟨rfl, unhide HB2⟩
  · have HB2 := hide (hb1.trans (hb2.mono hb1.size))
    clear hS1 hb1 hb2
    go_wp2
    go_ret2
    exact ⟨rfl, unhide HB2⟩
end Go.Proofs.Ymbrdl
