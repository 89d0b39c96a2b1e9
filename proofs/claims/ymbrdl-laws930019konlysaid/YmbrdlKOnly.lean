import Derived.Test.YmbrdlKOnlyP
set_option linter.unusedSimpArgs false
set_option linter.unusedVariables false
namespace Go.Proofs.Ymbrdl
open Go.RowKit

theorem infoSk : (Ydlm.prog.info? 22).map (fun i => (i.zero, i.size, i.bytes)) = some (some (.slice none 0 0), 1, 24) := by kernel_rfl

set_option maxRecDepth 8000 in
set_option maxHeartbeats 8000000 in
theorem kOnly_walk (a0 : Option Addr) (len0 cap0 : Nat) (z0 : List ByteArray) (a1 : Option Addr) (len1 cap1 : Nat) (z1 : List Bool) (a2 : Int) (w : World) (w0 : Strs w a0 len0 cap0 z0) (w1 : Bools w a1 len1 cap1 z1) (w2 : (Lit.int .u8 a2).wf = true) :
    Calls Ydlm.prog 11 #[.slice a0 len0 cap0, .slice a1 len1 cap1, .int .u8 a2] w fun e w' => e = .returned (.bool true) ∧ Below w.heap.size w w' := by
  obtain ⟨iS, hi, hz0, hz1, hz2⟩ := info_parts infoSk
  obtain ⟨p2, q2⟩ := bounds_u8 w2
  clear w2
  have hle0 := w0.le
  have hmx0 := w0.max
  have hle1 := w1.le
  have hmx1 := w1.max
  unfold maxLen at hmx0 hmx1
  have HL0 := hide w0.hlen
  go_enter Ydlm.func11, Ydlm.ntmps11
  go_wp2_with fail
  refine (kbig_any _ _ _ z0 _ w0).mono ?_
  rintro e w' ⟨hx, hw⟩
  obtain rfl := hw.symm
  rcases hx with ⟨-, rfl⟩ | ⟨hK, rfl⟩
  · go_wp2
    go_ret
    exact ⟨rfl, Below.refl _ _⟩
  have hl4 : len0 ≤ 1024 := by have := hK.1; have := unhide HL0; omega
  have HK := hide hK.2
  clear hK
  go_wp2
  go_loop [8, 28] (fun x i => ∃ (k m : Nat), k ≤ len0 ∧ i = .int .i64 k ∧ x = .int .i64 m ∧ m ≤ 1048576 ∧ Hid (∀ s ∈ z0.take k, s.size ≤ m)) (fun _ i => len0 - (intOf i).toNat)
  case atStart => exact ⟨0, 0, Nat.zero_le _, rfl, rfl, by omega, by simp [Hid]⟩
  case round =>
    obtain ⟨k, m, hk, rfl, rfl, hm, HM⟩ := hrel
    by_cases hlt : k < len0
    · obtain ⟨b, off, s, rfl, hss, -, hb, hc⟩ := w0.nth k hlt
      have HT := hide (show z0.take (k + 1) = z0.take k ++ [s] by rw [List.take_add_one, hss]; rfl)
      have hsz := unhide HK s (List.mem_of_getElem? hss)
      clear hss
      by_cases hmj : m < s.size
      · go_wp2
        go_round
        case rel =>
          refine ⟨k + 1, s.size, by omega, by go_num, rfl, by omega, ?_⟩
          intro x hx
          rw [unhide HT] at hx
          rcases List.mem_append.1 hx with hx | hx
          · have := unhide HM x hx; omega
          · rw [List.mem_singleton.1 hx]; exact Nat.le_refl _
        case measure => simp [intOf]; omega
      · go_wp2
        go_round
        case rel =>
          refine ⟨k + 1, m, by omega, by go_num, rfl, by omega, ?_⟩
          intro x hx
          rw [unhide HT] at hx
          rcases List.mem_append.1 hx with hx | hx
          · exact unhide HM x hx
          · rw [List.mem_singleton.1 hx]; omega
        case measure => simp [intOf]; omega
    · have hM := unhide HM
      rw [List.take_of_length_le (by have := unhide HL0; omega)] at hM
      obtain ⟨W, hW, hmW, hW2⟩ : ∃ W : Nat, a2 % 16 + (m : Int) = (W : Int) ∧ m ≤ W ∧ W ≤ 1048591 := ⟨(a2 % 16 + (m : Int)).toNat, by omega, by omega, by omega⟩
      have HF : Hid (∀ s ∈ z0, (s.size : Int) ≤ (W : Int)) := fun s hs => by have := hM s hs; omega
      have HW := hide hW
      clear hM HM hW
      go_wp2
      rw [unhide HW]
      clear HW
      go_loopw [11, 12, 13, 14, 15, 16, 44] (fun vg vo sm gs os us i wr => ∃ (q Gs Os U : Nat) (same : Bool) (G O : List (List ByteArray)) (hg ho : List Value), q ≤ len0 ∧ i = .int .i64 q ∧ gs = .int .i64 Gs ∧ os = .int .i64 Os ∧ us = .int .i64 U ∧ sm = .bool same ∧ Own wr w.heap.size 22 vg hg ∧ Own wr w.heap.size 22 vo ho ∧ Two vg vo ∧ Gs ≤ q ∧ Os ≤ q ∧ U ≤ W ∧ hg.length ≤ q ∧ ho.length ≤ q ∧ Hid (KSt W z0 q G O Gs Os U same) ∧ Hid (Hd w hg G) ∧ Hid (Hd w ho O) ∧ Below w.heap.size w wr) (fun _ _ _ _ _ _ i _ => len0 - (intOf i).toNat)
      case atStart => exact ⟨0, 0, 0, 0, true, [], [], [], [], Nat.zero_le _, rfl, rfl, rfl, rfl, rfl, Own.nil _ _ _, Own.nil _ _ _, Two.nil, Nat.le_refl _, Nat.le_refl _, Nat.zero_le _, Nat.le_refl _, Nat.le_refl _, KSt.init _ _ (by omega), Hd.nil _, Hd.nil _, Below.refl _ _⟩
      case round =>
        obtain ⟨q, Gs, Os, U, same, G, O, hg, ho, hq, rfl, rfl, rfl, rfl, rfl, hown1, hown2, htwo, hGs, hOs, hU, hgl, hol, HST, HHG, HHO, hbr⟩ := hrel
        have hBr := hbr.size
        by_cases hltq : q < len0
        · obtain ⟨b, off, s, rfl, hss, -, hbl, hcw⟩ := w0.nth q hltq
          have hc := (hbr.cell (p := ⟨b, off + q, none⟩) hbl).trans hcw
          have hsf := unhide HF s (List.mem_of_getElem? hss)
          have HSS := hide hss
          clear hss hcw
          by_cases hq0 : q < 1
          · have h0b : ((q : Int) == 0) = true := by rw [beq_iff_eq]; omega
            have R := hide ((unhide HST).first (by omega) (unhide HSS) hsf)
            go_wp2
            go_roundw
            case rel => exact ⟨q + 1, Gs, Os, s.size, same, G, O, hg, ho, by omega, by go_num, rfl, rfl, rfl, rfl, hown1, hown2, htwo, by omega, by omega, by omega, by omega, by omega, R, HHG, HHO, hbr⟩
            case measure => simp [intOf]; omega
          · have h0b : ((q : Int) == 0) = false := beq_eq_false_iff_ne.2 (by omega)
            obtain ⟨p, hp⟩ : ∃ p, q = p + 1 := ⟨q - 1, by omega⟩
            have hq1 : (q : Int) - 1 = (p : Int) := by omega
            have hpq : p < q := by omega
            have hqp : q ≤ p + 1 := by omega
            clear hp
            have HSG := hide (StrsK.cut w0 Gs (q - Gs) (by omega))
            have HSO := hide (StrsK.cut w0 Os (q - Os) (by omega))
            by_cases hbk : (W : Int) < (U : Int) + 1 + (s.size : Int)
            · have hbb : decide ((W : Int) < (U : Int) + 1 + (s.size : Int)) = true := by simp [hbk]
              have hbn : decide (W < U + 1 + s.size) = true := by simp; omega
              by_cases hfl : q ≤ len1
              · obtain ⟨b1, off1, c, rfl, hbl1, hcw1⟩ := w1.nth p (by omega)
                have hfd : decide ((q : Int) ≤ (len1 : Int)) = true := by simp; omega
                cases c
                · have R := hide ((unhide HST).step (by omega) (unhide HSS) hsf true false (by simpa using hbk))
                  have hCC : Hid (∀ w3, wr.grownBy w3 u11.ownBlock → w3.cell? ⟨b1, off1 + p, none⟩ = some (.bool false)) := fun w3 h => ((Below.of_grown hbr hown1 hBr h).cell (p := ⟨b1, off1 + p, none⟩) hbl1).trans hcw1
                  have hO2 : Hid (∀ w3, wr.grownBy w3 u11.ownBlock → Own w3 w.heap.size 22 u12 ho) := fun w3 h => Own.grown hown2 h htwo.symm.left
                  have hB2 : Hid (∀ w3, wr.grownBy w3 u11.ownBlock → w.heap.size ≤ w3.heap.size) := fun w3 h => Nat.le_trans hBr h.size
                  go_wp2_with (first | (at_builtin; refine wpList_append1 rfl (.tmp 61) (.tmp 66) 38 rfl w.heap.size 22 iS (.slice none 0 0) 24 Ydlm.underlying38 hi hz0 hz1 hz2 rfl u11 hg rfl wr (.slice (some ⟨b, off + Gs, none⟩) (q - Gs) (cap0 - Gs)) rfl hown1 hBr rfl (by omega) (by unfold maxLen; omega) ?_; intro v3 w3 hu3 hg3 hat3 hne3; have hc1 := unhide hCC w3 hg3) | (at_builtin; refine wpList_append1 rfl (.tmp 91) (.tmp 96) 38 rfl w.heap.size 22 iS (.slice none 0 0) 24 Ydlm.underlying38 hi hz0 hz1 hz2 rfl u12 ho rfl w3 (.slice (some ⟨b, off + Os, none⟩) (q - Os) (cap0 - Os)) rfl (unhide hO2 w3 hg3) (unhide hB2 w3 hg3) rfl (by omega) (by unfold maxLen; omega) ?_; intro v4 w4 hu4 hg4 hat4 hne4))
                  have B3 := Below.of_grown hbr hown1 hBr hg3
                  have hB3 := B3.size
                  have O2 := Own.grown hown2 hg3 htwo.symm.left
                  have T3 := htwo.grown hown2 hat3
                  have HHG3 := hide ((unhide HHG).push (unhide HSG))
                  have B4 := Below.of_grown B3 O2 hB3 hg4
                  have O1 := Own.grown hu3 hg4 T3.left
                  have T4 := (T3.symm.grown hu3 hat4).symm
                  have HHO4 := hide ((unhide HHO).push (unhide HSO))
                  clear hg3 hat3 hne3 hown1 hown2 htwo hbr hc hg4 hat4 hne4 hu3 O2 T3 B3 hO2 hB2
                  go_wp2
                  go_roundw
                  case rel => exact ⟨q + 1, q, q, s.size, same, _, _, _, _, by omega, by go_num, rfl, rfl, by first | rfl | go_num, rfl, O1, hu4, T4, by omega, by omega, by omega, by first | omega | (simp; omega), by first | omega | (simp; omega), unhide R, unhide HHG3, unhide HHO4, B4⟩
                  case measure => simp [intOf]; omega
                · have R := hide ((unhide HST).step (by omega) (unhide HSS) hsf true true (by simpa using hbk))
                  have hCC : Hid (∀ w3, wr.grownBy w3 u11.ownBlock → w3.cell? ⟨b1, off1 + p, none⟩ = some (.bool true)) := fun w3 h => ((Below.of_grown hbr hown1 hBr h).cell (p := ⟨b1, off1 + p, none⟩) hbl1).trans hcw1
                  go_wp2_with (at_builtin; refine wpList_append1 rfl (.tmp 61) (.tmp 66) 38 rfl w.heap.size 22 iS (.slice none 0 0) 24 Ydlm.underlying38 hi hz0 hz1 hz2 rfl u11 hg rfl wr (.slice (some ⟨b, off + Gs, none⟩) (q - Gs) (cap0 - Gs)) rfl hown1 hBr rfl (by omega) (by unfold maxLen; omega) ?_; intro v3 w3 hu3 hg3 hat3 hne3; have hc1 := unhide hCC w3 hg3)
                  have B3 := Below.of_grown hbr hown1 hBr hg3
                  have hB3 := B3.size
                  have O2 := Own.grown hown2 hg3 htwo.symm.left
                  have T3 := htwo.grown hown2 hat3
                  have HHG3 := hide ((unhide HHG).push (unhide HSG))
                  clear hg3 hat3 hne3 hown1 hown2 htwo hbr hc
                  go_wp2
                  go_roundw
                  case rel => exact ⟨q + 1, q, Os, s.size, false, _, _, _, _, by omega, by go_num, rfl, rfl, by first | rfl | go_num, rfl, hu3, O2, T3, by omega, by omega, by omega, by first | omega | (simp; omega), by first | omega | (simp; omega), unhide R, unhide HHG3, unhide HHO, B3⟩
                  case measure => simp [intOf]; omega
              · have hfd : decide ((q : Int) ≤ (len1 : Int)) = false := by simp; omega
                have R := hide ((unhide HST).step (by omega) (unhide HSS) hsf true false (by simpa using hbk))
                have hO2 : Hid (∀ w3, wr.grownBy w3 u11.ownBlock → Own w3 w.heap.size 22 u12 ho) := fun w3 h => Own.grown hown2 h htwo.symm.left
                have hB2 : Hid (∀ w3, wr.grownBy w3 u11.ownBlock → w.heap.size ≤ w3.heap.size) := fun w3 h => Nat.le_trans hBr h.size
                go_wp2_with (first | (at_builtin; refine wpList_append1 rfl (.tmp 61) (.tmp 66) 38 rfl w.heap.size 22 iS (.slice none 0 0) 24 Ydlm.underlying38 hi hz0 hz1 hz2 rfl u11 hg rfl wr (.slice (some ⟨b, off + Gs, none⟩) (q - Gs) (cap0 - Gs)) rfl hown1 hBr rfl (by omega) (by unfold maxLen; omega) ?_; intro v3 w3 hu3 hg3 hat3 hne3) | (at_builtin; refine wpList_append1 rfl (.tmp 91) (.tmp 96) 38 rfl w.heap.size 22 iS (.slice none 0 0) 24 Ydlm.underlying38 hi hz0 hz1 hz2 rfl u12 ho rfl w3 (.slice (some ⟨b, off + Os, none⟩) (q - Os) (cap0 - Os)) rfl (unhide hO2 w3 hg3) (unhide hB2 w3 hg3) rfl (by omega) (by unfold maxLen; omega) ?_; intro v4 w4 hu4 hg4 hat4 hne4))
                have B3 := Below.of_grown hbr hown1 hBr hg3
                have hB3 := B3.size
                have O2 := Own.grown hown2 hg3 htwo.symm.left
                have T3 := htwo.grown hown2 hat3
                have HHG3 := hide ((unhide HHG).push (unhide HSG))
                have B4 := Below.of_grown B3 O2 hB3 hg4
                have O1 := Own.grown hu3 hg4 T3.left
                have T4 := (T3.symm.grown hu3 hat4).symm
                have HHO4 := hide ((unhide HHO).push (unhide HSO))
                clear hg3 hat3 hne3 hown1 hown2 htwo hbr hc hg4 hat4 hne4 hu3 O2 T3 B3 hO2 hB2
                go_wp2
                go_roundw
                case rel => exact ⟨q + 1, q, q, s.size, same, _, _, _, _, by omega, by go_num, rfl, rfl, by first | rfl | go_num, rfl, O1, hu4, T4, by omega, by omega, by omega, by first | omega | (simp; omega), by first | omega | (simp; omega), unhide R, unhide HHG3, unhide HHO4, B4⟩
                case measure => simp [intOf]; omega
            · have hbb : decide ((W : Int) < (U : Int) + 1 + (s.size : Int)) = false := by simp; omega
              have hbn : decide (W < U + 1 + s.size) = false := by simp; omega
              by_cases hfl : q ≤ len1
              · obtain ⟨b1, off1, c, rfl, hbl1, hcw1⟩ := w1.nth p (by omega)
                have hfd : decide ((q : Int) ≤ (len1 : Int)) = true := by simp; omega
                have hc1 := (hbr.cell (p := ⟨b1, off1 + p, none⟩) hbl1).trans hcw1
                cases c
                · have R := hide ((unhide HST).step (by omega) (unhide HSS) hsf false false (by simpa using hbk))
                  go_wp2
                  go_roundw
                  case rel => exact ⟨q + 1, Gs, Os, U + (1 + s.size), same, _, _, _, _, by omega, by go_num, rfl, rfl, by first | rfl | go_num, rfl, hown1, hown2, htwo, by omega, by omega, by omega, by first | omega | (simp; omega), by first | omega | (simp; omega), unhide R, unhide HHG, unhide HHO, hbr⟩
                  case measure => simp [intOf]; omega
                · have R := hide ((unhide HST).step (by omega) (unhide HSS) hsf false true (by simpa using hbk))
                  go_wp2_with (at_builtin; refine wpList_append1 rfl (.tmp 91) (.tmp 96) 38 rfl w.heap.size 22 iS (.slice none 0 0) 24 Ydlm.underlying38 hi hz0 hz1 hz2 rfl u12 ho rfl wr (.slice (some ⟨b, off + Os, none⟩) (q - Os) (cap0 - Os)) rfl hown2 hBr rfl (by omega) (by unfold maxLen; omega) ?_; intro v4 w4 hu4 hg4 hat4 hne4)
                  have B4 := Below.of_grown hbr hown2 hBr hg4
                  have O1 := Own.grown hown1 hg4 htwo.left
                  have T4 := (htwo.symm.grown hown1 hat4).symm
                  have HHO4 := hide ((unhide HHO).push (unhide HSO))
                  clear hg4 hat4 hne4 hown1 hown2 htwo hbr
                  go_wp2
                  go_roundw
                  case rel => exact ⟨q + 1, Gs, q, U + (1 + s.size), false, _, _, _, _, by omega, by go_num, rfl, rfl, by first | rfl | go_num, rfl, O1, hu4, T4, by omega, by omega, by omega, by first | omega | (simp; omega), by first | omega | (simp; omega), unhide R, unhide HHG, unhide HHO4, B4⟩
                  case measure => simp [intOf]; omega
              · have hfd : decide ((q : Int) ≤ (len1 : Int)) = false := by simp; omega
                have R := hide ((unhide HST).step (by omega) (unhide HSS) hsf false false (by simpa using hbk))
                go_wp2
                go_roundw
                case rel => exact ⟨q + 1, Gs, Os, U + (1 + s.size), same, _, _, _, _, by omega, by go_num, rfl, rfl, by first | rfl | go_num, rfl, hown1, hown2, htwo, by omega, by omega, by omega, by first | omega | (simp; omega), by first | omega | (simp; omega), unhide R, unhide HHG, unhide HHO, hbr⟩
                case measure => simp [intOf]; omega
        · obtain rfl : q = len0 := by omega
          by_cases hpos : 0 < q
          · have hpd : decide (0 < q) = true := by simp [hpos]
            obtain ⟨b, off, rfl⟩ := w0.form (by omega)
            obtain ⟨hg1, hg2⟩ := (unhide HST).lt hpos
            obtain ⟨hgpG, hgpO⟩ := (unhide HST).last hpos (unhide HL0).symm (unhide HF)
            have HGG := hide hgpG
            have HGO := hide hgpO
            have HSG := hide (w0.dropTo Gs hGs)
            have HSO := hide (w0.dropTo Os hOs)
            clear hgpG hgpO
            have hO2 : Hid (∀ w3, wr.grownBy w3 u11.ownBlock → Own w3 w.heap.size 22 u12 ho) := fun w3 h => Own.grown hown2 h htwo.symm.left
            have hB2 : Hid (∀ w3, wr.grownBy w3 u11.ownBlock → w.heap.size ≤ w3.heap.size) := fun w3 h => Nat.le_trans hBr h.size
            go_wp2_with (first | (at_builtin; refine wpList_append1 rfl (.tmp 103) (.tmp 107) 38 rfl w.heap.size 22 iS (.slice none 0 0) 24 Ydlm.underlying38 hi hz0 hz1 hz2 rfl u11 hg rfl wr (.slice (some ⟨b, off + Gs, none⟩) (q - Gs) (cap0 - Gs)) rfl hown1 hBr rfl (by omega) (by unfold maxLen; omega) ?_; intro v3 w3 hu3 hg3 hat3 hne3) | (at_builtin; refine wpList_append1 rfl (.tmp 109) (.tmp 113) 38 rfl w.heap.size 22 iS (.slice none 0 0) 24 Ydlm.underlying38 hi hz0 hz1 hz2 rfl u12 ho rfl w3 (.slice (some ⟨b, off + Os, none⟩) (q - Os) (cap0 - Os)) rfl (unhide hO2 w3 hg3) (unhide hB2 w3 hg3) rfl (by omega) (by unfold maxLen; omega) ?_; intro v4 w4 hu4 hg4 hat4 hne4))
            have B3 := Below.of_grown hbr hown1 hBr hg3
            have hB3 := B3.size
            have O2 := Own.grown hown2 hg3 htwo.symm.left
            have T3 := htwo.grown hown2 hat3
            have B4 := Below.of_grown B3 O2 hB3 hg4
            have O1 := Own.grown hu3 hg4 T3.left
            obtain ⟨aG, cG, hvG, hSG⟩ := ((unhide HHG).push (unhide HSG)).strss O1 B4
            obtain ⟨aO, cO, hvO, hSO⟩ := ((unhide HHO).push (unhide HSO)).strss hu4 B4
            subst hvG hvO
            clear hg3 hat3 hne3 hown1 hown2 htwo hbr hg4 hat4 hne4 hu3 hu4 O2 T3 B3 hO2 hB2 O1 HSG HSO HHG HHO
            generalize G ++ [z0.drop Gs] = LG at *
            generalize O ++ [z0.drop Os] = LO at *
            generalize hnG : LG.length = nG at *
            generalize hnO : LO.length = nO at *
            have HGG2 : Hid (GP LG W nG) := HGG
            have HGO2 : Hid (GP LO W nO ↔ same = true) := HGO
            clear hnG hnO HGG HGO
            have hm1 := hSG.max
            have hm2 := hSO.max
            unfold maxLen at hm1 hm2
            go_wp2_with fail
            refine (isGreedy_any _ _ _ LG _ _ hSG (by omega) (by omega)).mono ?_
            rintro e w' ⟨hr, hw⟩
            obtain rfl := hw.symm
            obtain ⟨bb, rfl, hbb⟩ := hr.out
            obtain rfl : bb = true := hbb.2 (unhide HGG2)
            clear hbb hr
            go_wp2_with fail
            refine (isGreedy_any _ _ _ LO _ _ hSO (by omega) (by omega)).mono ?_
            rintro e w' ⟨hr, hw⟩
            obtain rfl := hw.symm
            obtain ⟨b2, rfl, hb2⟩ := hr.out
            obtain rfl : b2 = same := by
              have h1 := hb2.trans (unhide HGO2)
              cases b2 <;> cases same <;> simp_all
            clear hb2 hr HGO2 HGG2 HST
            cases b2
            · go_wp2
              go_ret
              exact ⟨rfl, B4⟩
            · go_wp2
              go_ret
              exact ⟨rfl, B4⟩
          · have hpd : decide (0 < q) = false := by simp; omega
            obtain ⟨rfl, rfl, -, -, rfl⟩ := (unhide HST).zero (by omega)
            obtain ⟨aG, cG, hvG, hSG⟩ := (unhide HHG).strss hown1 hbr
            obtain ⟨aO, cO, hvO, hSO⟩ := (unhide HHO).strss hown2 hbr
            subst hvG hvO
            have hm1 := hSG.max
            have hm2 := hSO.max
            unfold maxLen at hm1 hm2
            clear hown1 hown2 htwo HST HHG HHO
            generalize wr = X at *
            go_wp2_with fail
            refine (isGreedy_any _ _ _ [] _ _ hSG (by omega) (by omega)).mono ?_
            rintro e w' ⟨hr, hw⟩
            obtain rfl := hw.symm
            obtain ⟨bb, rfl, hbb⟩ := hr.out
            obtain rfl : bb = true := hbb.2 (GP.zero _ _)
            clear hbb hr
            go_wp2_with fail
            refine (isGreedy_any _ _ _ [] _ _ hSO (by omega) (by omega)).mono ?_
            rintro e w' ⟨hr, hw⟩
            obtain rfl := hw.symm
            obtain ⟨b2, rfl, hb2⟩ := hr.out
            obtain rfl : b2 = true := hb2.2 (GP.zero _ _)
            clear hb2 hr
            go_wp2
            go_ret
            exact ⟨rfl, hbr⟩
end Go.Proofs.Ymbrdl
