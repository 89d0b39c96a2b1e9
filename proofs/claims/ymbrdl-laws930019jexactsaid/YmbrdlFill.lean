import Derived.Test.YmbrdlFillP
import Derived.Test.YmbrdlJusAny
import Derived.Test.YmbrdlWrap
import Derived.Test.YmbrdlJoinLines
set_option linter.unusedSimpArgs false
set_option linter.unusedVariables false
namespace Go.Proofs.Ymbrdl
open Go.RowKit

theorem jl_small {ss : List ByteArray} {width : Int} (h : (jlen ss : Int) ≤ width) (hw : width ≤ 65536) : szs ss + ss.length ≤ 4294967296 := by
  unfold jlen at h; omega

set_option maxHeartbeats 3000000 in
theorem fill_yes (s : ByteArray) (width mode : Int) (w : World) (hs : s.size ≤ 1048576) (hn : (wsOf s.data.toList).length ≤ 4096) (hw1 : width ≤ 9223372036854775807) (hw0 : -9223372036854775808 ≤ width)
    (hfit : ∀ x ∈ wsOf s.data.toList, (x.size : Int) ≤ width) (hmode : wsOf s.data.toList = [] ∨ (width ≤ 65536 ∧ 0 ≤ mode ∧ mode ≤ 3)) :
    Calls Ydlm.prog 20 #[.string s, .int .i64 width, .int .i64 mode] w fun e w' => ∃ r : ByteArray, e = .returned (.tuple #[.string r, .bool true]) ∧ Hid (r.data.toList = fillL width.toNat mode (wrapL width (wsOf s.data.toList))) ∧ Below w.heap.size w w' := by
  obtain ⟨i9, hi9, hz90, hz91, hz92⟩ := info_parts info9w
  have HFIT := hide hfit
  have HM := hide hmode
  clear hfit hmode
  go_enter Ydlm.func20, Ydlm.ntmps20
  go_wp2_with fail
  refine (fields_any _ _ (by omega)).mono ?_
  rintro e x1 ⟨v1, ps, rfl, ho1, HT1, -, hz1, hb1⟩
  obtain rfl : ps = wsOf s.data.toList := wsOf_eq (unhide HT1)
  obtain ⟨a1, c1, rfl, hS1, -⟩ := Own.strs ho1 (fun x h => by have := hz1 x h; unfold maxLen; omega)
  have HZ1 : Hid (∀ x ∈ wsOf s.data.toList, x.size ≤ maxLen) := hS1.sz
  clear HT1 ho1 hz1
  generalize hws : wsOf s.data.toList = ws at *
  have HWS := hide hws
  clear hws
  generalize hn1 : ws.length = n1 at *
  have HN1 := hide hn1
  clear hn1
  go_wp2_with fail
  refine (wrap_any _ _ _ ws _ _ hS1 hw1 hw0 (by omega)).mono ?_
  rintro e x2 ⟨⟨v2, rfl, hf2, hW⟩ | ⟨rfl, x, hx, hlt⟩, hb2⟩
  · obtain ⟨hgp, hfl⟩ := wrapL_spec width ws (unhide HFIT)
    generalize hwr : wrapL width ws = L at *
    have HWR := hide hwr
    clear hwr
    obtain ⟨a2, c2, rfl, hSS, -⟩ := hW.strss (fun l hl x hx => unhide HZ1 x (by rw [← hfl]; exact List.mem_flatten.2 ⟨l, hl, hx⟩))
    have hln : L.length ≤ 4096 := by
      have h1 := GP.len_le hgp
      rw [hfl, unhide HN1] at h1
      omega
    have HB : Hid (0 < L.length → width ≤ 65536 ∧ 0 ≤ mode ∧ mode ≤ 3) := by
      intro hp
      rcases unhide HM with h | h
      · rw [h] at hfl
        rw [GP.nil_of_flat hgp hfl] at hp
        exact absurd hp (Nat.lt_irrefl _)
      · exact h
    have HG : Hid (∀ k l, L[k]? = some l → l ≠ [] ∧ (jlen l : Int) ≤ width) := fun k l hl => hgp.1 k l (lt_of_get hl) hl
    have hB1 := hide (hb1.trans (hb2.mono hb1.size))
    clear hW hf2 hgp hfl HM HFIT hS1 HN1 HZ1 hb1 hb2
    generalize hnn : L.length = n at *
    have HN := hide hnn
    clear hnn
    have hSm := hSS.max
    have hSl := hSS.le
    unfold maxLen at hSm
    go_wp2
    go_loopw [9, 10, 25] (fun ok v i wr => ∃ (k : Nat) (out : List ByteArray), k ≤ n ∧ ok = .bool true ∧ i = .int .i64 k ∧ Own wr x2.heap.size 9 v (out.map Value.string) ∧ Hid (textsF out = fillPre width.toNat mode L k) ∧ Hid (out.length = k) ∧ Hid (∀ x ∈ out, x.size = width.toNat) ∧ Below x2.heap.size x2 wr) (fun _ _ i _ => n - (intOf i).toNat)
    case atStart => exact ⟨0, [], Nat.zero_le _, rfl, rfl, Own.nil _ _ _, rfl, rfl, by simp [Hid], Below.refl _ _⟩
    case round =>
      obtain ⟨k, out, hk, rfl, rfl, hown, HT, HL, HZ, hbr⟩ := hrel
      by_cases hlt : k < n
      · obtain ⟨b, off, a', len', cap', ss, rfl, hl, hbl, hc, hS⟩ := (hSS.below hbr).nth k hlt
        obtain ⟨hb1, hb2, hb3⟩ := unhide HB (by omega)
        obtain ⟨-, hj⟩ := unhide HG k ss hl
        have hsm := jl_small hj hb1
        rw [hS.hlen] at hsm
        have HSL := hide hl
        have hlo : (out.map Value.string).length ≤ 4096 := by rw [List.length_map, unhide HL]; omega
        have hjw := hj
        have hwl := wordsL_length ss
        have HWL := hide hwl
        clear hl hwl
        have hSl2 := hS.le
        have hSm2 := hS.max
        unfold maxLen at hSm2
        generalize wr = X at *
        by_cases hm3 : mode = 3
        · have HM3 := hide hm3
          subst hm3
          by_cases hmore : k + 1 < n
          · have hmb : decide (k + 1 < n) = true := by simp [hmore]
            go_wp2_with fail
            refine (justify_yes _ _ _ ss _ _ hS hsm hj hb1).mono ?_
            rintro e y2 ⟨r, rfl, HR, HRS, hby2⟩
            have B2 := hbr.trans (hby2.mono hbr.size)
            have O2 := hown.below hby2
            have HE : Hid (r.data.toList = lineL width.toNat 3 (decide (k + 1 < L.length)) ss) := by
              show _ = _
              rw [unhide HR, unhide HN, hmb]; rfl
            have hB2 := B2.size
            clear hS hown HR hbr
            go_wp2_with (at_builtin; go_must (refine wpList_append1 rfl _ _ 22 rfl x2.heap.size 9 i9 (.string ByteArray.empty) 16 Ydlm.underlying22 hi9 hz90 hz91 hz92 rfl u10 (out.map Value.string) rfl y2 (.string r) rfl O2 hB2 rfl (by omega) (by unfold maxLen; omega) ?_); intro v3 w3 hu3 hg3 hat3 hne3)
            have R1 : Own w3 x2.heap.size 9 v3 ((out ++ [r]).map Value.string) := by rw [List.map_append]; exact hu3
            have R2 := Below.of_grown B2 O2 hB2 hg3
            have R3 : Hid (textsF (out ++ [r]) = fillPre width.toNat 3 L (k + 1)) := by
              show _ = _
              rw [textsF_append, fillPre_succ (unhide HSL), unhide HT, ← unhide HE]; rfl
            have R4 : Hid ((out ++ [r]).length = k + 1) := by show _ = _; rw [List.length_append, unhide HL]; rfl
            have R5 : Hid (∀ x ∈ out ++ [r], x.size = width.toNat) := by
              intro x hx
              rw [List.mem_append] at hx
              rcases hx with hx | hx
              · exact unhide HZ x hx
              · rw [List.mem_singleton.1 hx]; exact unhide HRS
            clear hu3 hg3 hat3 hne3 O2 B2
            go_wp2
            go_roundw
            case rel => exact ⟨k + 1, _, by omega, rfl, by go_num, R1, R3, R4, R5, R2⟩
            case measure => simp [intOf]; omega
          · have hmb : decide (k + 1 < n) = false := by simp; omega
            go_wp2_with fail
            refine (joinWords_any _ _ _ ss _ hS hsm).mono ?_
            rintro e y1 ⟨r1, rfl, HR1, hby1⟩
            have hr1 : (r1.size : Int) ≤ width := by
              have h1 := congrArg List.length (unhide HR1)
              rw [unhide HWL, data_len] at h1
              omega
            go_wp2_with fail
            refine (align_str r1 width 0 _ hr1 hb1 (by omega) (by omega)).mono ?_
            rintro e y2 ⟨r, rfl, HR, HRS, hby2⟩
            have B2 := (hbr.trans (hby1.mono hbr.size)).trans (hby2.mono (Nat.le_trans hbr.size hby1.size))
            have O2 := (hown.below hby1).below hby2
            have HE : Hid (r.data.toList = lineL width.toNat 3 (decide (k + 1 < L.length)) ss) := by
              show _ = _
              rw [unhide HR, unhide HN, hmb, unhide HR1]; rfl
            have hB2 := B2.size
            clear hS hown HR hbr
            go_wp2_with (at_builtin; go_must (refine wpList_append1 rfl _ _ 22 rfl x2.heap.size 9 i9 (.string ByteArray.empty) 16 Ydlm.underlying22 hi9 hz90 hz91 hz92 rfl u10 (out.map Value.string) rfl y2 (.string r) rfl O2 hB2 rfl (by omega) (by unfold maxLen; omega) ?_); intro v3 w3 hu3 hg3 hat3 hne3)
            have R1 : Own w3 x2.heap.size 9 v3 ((out ++ [r]).map Value.string) := by rw [List.map_append]; exact hu3
            have R2 := Below.of_grown B2 O2 hB2 hg3
            have R3 : Hid (textsF (out ++ [r]) = fillPre width.toNat 3 L (k + 1)) := by
              show _ = _
              rw [textsF_append, fillPre_succ (unhide HSL), unhide HT, ← unhide HE]; rfl
            have R4 : Hid ((out ++ [r]).length = k + 1) := by show _ = _; rw [List.length_append, unhide HL]; rfl
            have R5 : Hid (∀ x ∈ out ++ [r], x.size = width.toNat) := by
              intro x hx
              rw [List.mem_append] at hx
              rcases hx with hx | hx
              · exact unhide HZ x hx
              · rw [List.mem_singleton.1 hx]; exact unhide HRS
            clear hu3 hg3 hat3 hne3 O2 B2
            go_wp2
            go_roundw
            case rel => exact ⟨k + 1, _, by omega, rfl, by go_num, R1, R3, R4, R5, R2⟩
            case measure => simp [intOf]; omega
        · have hmb : (mode != 3) = true := by simp [hm3]
          have hmb2 : (mode == 3) = false := by simp [hm3]
          have HM3 := hide hm3
          go_wp2_with fail
          refine (joinWords_any _ _ _ ss _ hS hsm).mono ?_
          rintro e y1 ⟨r1, rfl, HR1, hby1⟩
          have hr1 : (r1.size : Int) ≤ width := by
            have h1 := congrArg List.length (unhide HR1)
            rw [unhide HWL, data_len] at h1
            omega
          go_wp2_with fail
          refine (align_str r1 width mode _ hr1 hb1 hb2 (by have := unhide HM3; omega)).mono ?_
          rintro e y2 ⟨r, rfl, HR, HRS, hby2⟩
          have B2 := (hbr.trans (hby1.mono hbr.size)).trans (hby2.mono (Nat.le_trans hbr.size hby1.size))
          have O2 := (hown.below hby1).below hby2
          have HE : Hid (r.data.toList = lineL width.toNat mode (decide (k + 1 < L.length)) ss) := by
            show _ = _
            rw [unhide HR, unhide HR1, lineL, if_neg (unhide HM3)]
          have hB2 := B2.size
          clear hS hown HR hbr
          go_wp2_with (at_builtin; go_must (refine wpList_append1 rfl _ _ 22 rfl x2.heap.size 9 i9 (.string ByteArray.empty) 16 Ydlm.underlying22 hi9 hz90 hz91 hz92 rfl u10 (out.map Value.string) rfl y2 (.string r) rfl O2 hB2 rfl (by omega) (by unfold maxLen; omega) ?_); intro v3 w3 hu3 hg3 hat3 hne3)
          have R1 : Own w3 x2.heap.size 9 v3 ((out ++ [r]).map Value.string) := by rw [List.map_append]; exact hu3
          have R2 := Below.of_grown B2 O2 hB2 hg3
          have R3 : Hid (textsF (out ++ [r]) = fillPre width.toNat mode L (k + 1)) := by
            show _ = _
            rw [textsF_append, fillPre_succ (unhide HSL), unhide HT, ← unhide HE]; rfl
          have R4 : Hid ((out ++ [r]).length = k + 1) := by show _ = _; rw [List.length_append, unhide HL]; rfl
          have R5 : Hid (∀ x ∈ out ++ [r], x.size = width.toNat) := by
            intro x hx
            rw [List.mem_append] at hx
            rcases hx with hx | hx
            · exact unhide HZ x hx
            · rw [List.mem_singleton.1 hx]; exact unhide HRS
          clear hu3 hg3 hat3 hne3 O2 B2
          go_wp2
          go_roundw
          case rel => exact ⟨k + 1, _, by omega, rfl, by go_num, R1, R3, R4, R5, R2⟩
          case measure => simp [intOf]; omega
      · obtain rfl : k = n := by omega
        obtain ⟨a3, c3, hv3, hS3, -⟩ := Own.strs hown (fun x h => by
          have h1 := unhide HZ x h
          rcases Nat.eq_zero_or_pos k with h0 | h0
          · have h2 := unhide HL
            rw [h0] at h2
            rw [List.eq_nil_of_length_eq_zero h2] at h
            simp at h
          · obtain ⟨h3, _, _⟩ := unhide HB h0
            unfold maxLen; omega)
        rw [unhide HL] at hv3 hS3
        subst hv3
        have hsz : szs out + k ≤ 4294967296 := by
          rw [szs_const out (unhide HZ), unhide HL]
          rcases Nat.eq_zero_or_pos k with h0 | h0
          · subst h0; simp
          · obtain ⟨h3, _, _⟩ := unhide HB h0
            have h4 : k * width.toNat ≤ 4096 * 65536 := Nat.mul_le_mul (by omega) (by omega)
            omega
        generalize wr = X at *
        go_wp2_with fail
        refine (joinLines_any _ _ _ out _ hS3 hsz).mono ?_
        rintro e y ⟨r, rfl, HR, hby⟩
        have HE : Hid (r.data.toList = fillL width.toNat mode L) := by
          show _ = _
          rw [unhide HR, linesL_glue, unhide HT, fillL, unhide HN]
        have HB2 := hide (((unhide hB1).trans (hbr.mono (unhide hB1).size)).trans (hby.mono (Nat.le_trans (unhide hB1).size hbr.size)))
        clear hS3 hown HR hby hbr
        go_wp2
        go_ret2
        refine ⟨r, rfl, ?_, unhide HB2⟩
        rw [unhide HWS, unhide HWR]
        exact HE
  · exact absurd (unhide HFIT x hx) (by omega)
end Go.Proofs.Ymbrdl
