import Derived.Test.YmbrdlModelP
import Derived.Test.YmbrdlJRefill
set_option linter.unusedSimpArgs false
set_option linter.unusedVariables false
namespace Go.Proofs.Ymbrdl
open Go.RowKit

set_option maxRecDepth 8000 in
set_option maxHeartbeats 12000000 in
theorem jmodel_good3 (s : ByteArray) (W : Nat) (mode : Int) (w : World) (hs : s.size ≤ 1024) (hfit : ∀ x ∈ wsOf s.data.toList, (x.size : Int) ≤ (W : Int)) (hws : wsOf s.data.toList ≠ []) (hW : W ≤ 65536) (hmode : mode = 3) :
    Calls Ydlm.prog 19 #[.string s, .int .i64 W, .int .i64 mode] w fun e w' => ∃ r : ByteArray, e = .returned (.tuple #[.string r, .bool true]) ∧ Hid (r.data.toList = fillL W mode (wrapL W (wsOf s.data.toList))) ∧ Below w.heap.size w w' := by
  obtain ⟨i0, hi, hz0, hz1, hz2⟩ := info_parts info5j
  have HWS := hide hws
  have HFIT := hide hfit
  have HMODE := hide hmode
  have hm0 : 0 ≤ mode := by omega
  have hm3 : mode ≤ 3 := by omega
  clear hws hfit hmode
  go_enter Ydlm.func19, Ydlm.ntmps19
  go_wp2_with fail
  refine (jlongest_any _ _ (by omega)).mono ?_
  rintro e w' ⟨⟨m, rfl, hm, HM⟩, hw⟩
  obtain rfl := hw.symm
  have hp := long_pos (unhide HM) (unhide HWS)
  have hmz : ((m : Int) == 0) = false := beq_eq_false_iff_ne.2 (by omega)
  have hma := (long_fit (width := W) (unhide HM) hp).1 (unhide HFIT)
  have hcnt : (wsOf s.data.toList).length ≤ 1024 := Nat.le_trans (ws_len _) (by rw [data_len]; omega)
  obtain ⟨hgp, hfl⟩ := wrapL_spec W _ (unhide HFIT)
  have hwords := wsOf_words s.data.toList
  clear HM HWS HFIT
  go_wp2_with fail
  refine (jwords_any _ _ (by omega)).mono ?_
  rintro e x1 ⟨vw, rfl, how, -, HZw, hb1⟩
  obtain ⟨aw, cw, rfl, hSw, -⟩ := Own.strs how (fun x hx => by have := unhide HZw x hx; unfold maxLen; omega)
  clear how
  generalize hws : wsOf s.data.toList = ws at *
  have HWS := hide hws
  generalize hwr : wrapL W ws = L at *
  have HWR := hide hwr
  clear hws hwr
  have hLl : L.length ≤ 1024 := by
    have h1 := GP.len_le hgp
    rw [hfl] at h1
    omega
  have HGL : Hid (∀ l ∈ L, l ≠ [] ∧ jlen l ≤ W) := fun l hl => by
    obtain ⟨k, hk, rfl⟩ := List.getElem_of_mem hl
    have := hgp.1 k _ hk (List.getElem?_eq_getElem hk)
    exact ⟨this.1, by omega⟩
  have HPL : Hid (∀ k, k ≤ L.length → (glue (fillPre W mode L k)).length ≤ 67109888) := fun k hk => by
    have h1 := flat_fillPre (W := W) (mode := mode) (L := L) (by rw [hfl]; exact hwords) (fun l hl => (unhide HGL l hl).2) k
    rw [h1.length, fillPre_length k hk]
    have : k * (W + 1) ≤ 1024 * 65537 := Nat.mul_le_mul (by omega) (by omega)
    omega
  have HGP := hide hgp
  have HFL := hide hfl
  have HB0 := hide hb1
  generalize hnn : ws.length = n at *
  have HN := hide hnn
  clear hgp hfl hwords hb1 hnn
  have hSwm := hSw.max
  have hSwl := hSw.le
  unfold maxLen at hSwm
  go_wp2
  go_loopw [10, 11] (fun v i wr => ∃ (K A : Nat), A ≤ n ∧ i = .int .i64 A ∧ Buf wr x1.heap.size v (glue (fillPre W mode L K)) ∧ Hid (K ≤ L.length ∧ A = ((L.take K).flatten).length) ∧ Below x1.heap.size x1 wr) (fun _ i _ => n - (intOf i).toNat)
  case atStart => exact ⟨0, 0, Nat.zero_le _, rfl, Buf.nil _ _, ⟨Nat.zero_le _, rfl⟩, Below.refl _ _⟩
  case round =>
    obtain ⟨K, A, hA, rfl, hbuf, HKA, hbr⟩ := hrel
    generalize wr = X at *
    have hB := hbr.size
    have hSX := hSw.below hbr
    by_cases hlt : A < n
    · obtain ⟨l, hst⟩ := line_left (unhide HFL) (unhide HKA).1 (unhide HKA).2 (by rw [unhide HN]; exact hlt)
      obtain ⟨hlne, hlj⟩ := unhide HGL l (List.mem_of_getElem? hst.line)
      have hlp := List.length_pos_iff.2 hlne
      have hle := hst.le hlne
      rw [unhide HN] at hle
      obtain ⟨T, hT⟩ : ∃ T, T = l.length := ⟨_, rfl⟩
      have HT := hide hT
      rw [← hT] at hle hlp
      have HST := hide hst
      have hK : K < L.length := lt_of_get hst.line
      have hpl := unhide HPL K (by omega)
      have HNE := hide hlne
      have HLJ := hide hlj
      obtain ⟨pre, hpre⟩ : ∃ pre, pre = glue (fillPre W mode L K) := ⟨_, rfl⟩
      rw [← hpre] at hbuf hpl
      have HPRE := hide hpre
      clear hpre hT hst hlne hlj
      obtain ⟨b0, off0, s0, rfl, hs0, -, hbl0, hc0⟩ := hSX.nth A hlt
      have HS0 := hide hs0
      have hsz0 : s0.size ≤ 1024 := Nat.le_trans (unhide HZw s0 (List.mem_of_getElem? hs0)) hs
      clear hs0
      go_wp2
      go_loop [12, 13] (fun sz j => ∃ (t S J : Nat), 1 ≤ t ∧ t ≤ T ∧ j = .int .i64 J ∧ sz = .int .i64 S ∧ Hid (J = A + t) ∧ J ≤ n ∧ A < J ∧ S ≤ W ∧ Hid (S = jlen (l.take t))) (fun _ j => n - (intOf j).toNat)
      case atStart =>
        have h1 := (unhide HST).word (t := 0) (by rw [← unhide HT]; omega)
        rw [Nat.add_zero, unhide HS0] at h1
        have h2 : jlen (l.take 1) = _ := jlen_take_succ h1.symm
        have h3 : jlen (l.take 0) = 0 := by simp [jlen, szs]
        rw [h3, if_pos rfl] at h2
        have h4 := jlen_take_le l 1
        have h5 := unhide HLJ
        have h6 : s0.size ≤ W := by omega
        exact ⟨1, s0.size, A + 1, Nat.le_refl _, hlp, by go_num, rfl, rfl, by omega, by omega, by omega, by show _ = _; omega⟩
      case round =>
        obtain ⟨t, S, J, ht1, ht2, rfl, rfl, HJ, hJ, hAJ, hSW, HS⟩ := hrel
        clear hc0 hbl0
        by_cases htT : t < T
        · have hJn : J < n := by have := unhide HJ; omega
          obtain ⟨b1, off1, s1, ha1, hs1, -, hbl1, hc1⟩ := hSX.nth J hJn
          first | subst ha1 | (simp at ha1; obtain ⟨rfl, rfl⟩ := ha1)
          have hsz1 : s1.size ≤ 1024 := Nat.le_trans (unhide HZw s1 (List.mem_of_getElem? hs1)) hs
          have h1 := (unhide HST).word (t := t) (by rw [← unhide HT]; omega)
          rw [← unhide HJ, hs1] at h1
          have h2 := jlen_take_succ h1.symm
          rw [if_neg (by omega), ← unhide HS] at h2
          have h4 := jlen_take_le l (t + 1)
          have h5 := unhide HLJ
          have hfit : S + 1 + s1.size ≤ W := by omega
          have HS2 : Hid (S + (1 + s1.size) = jlen (l.take (t + 1))) := by show _ = _; omega
          clear h1 h2 h4 h5 hs1
          go_wp2
          go_round
          case rel => exact ⟨t + 1, S + (1 + s1.size), J + 1, by omega, by omega, by go_num, by go_num, by have := unhide HJ; show _ = _; omega, by omega, by omega, by omega, HS2⟩
          case measure => simp [intOf]; omega
        · obtain rfl : t = T := by omega
          have hS2 := unhide HS
          rw [unhide HT, List.take_length] at hS2
          have HSJ := hide hS2
          obtain ⟨P, hP0⟩ : ∃ P, P = W - S := ⟨_, rfl⟩
          obtain ⟨G, hG0⟩ : ∃ G, G = t - 1 := ⟨_, rfl⟩
          have hP : (W : Int) - (S : Int) = (P : Int) := by omega
          have hG : (J : Int) - (A : Int) - 1 = (G : Int) := by have := unhide HJ; omega
          have hPW : P ≤ W := by omega
          have HP0 := hide hP0
          have HG0 := hide hG0
          clear hS2 HS hP0 hG0
          have HNX := hide (MSt.step (unhide HST))
          rw [← unhide HT, ← unhide HJ] at HNX
          by_cases hmore : K + 1 < L.length
          · obtain ⟨hnx1, hnx2⟩ := (unhide HST).next (unhide HGP) hmore
            rw [unhide HN, ← unhide HT, ← unhide HJ] at hnx1
            rw [← unhide HT, ← unhide HJ] at hnx2
            obtain ⟨b1, off1, s1, ha1, hs1, -, hbl1, hc1⟩ := hSX.nth J hnx1
            first | subst ha1 | (simp at ha1; obtain ⟨rfl, rfl⟩ := ha1)
            have hno := hnx2 s1 hs1
            rw [← unhide HSJ] at hno
            have hsz1 : s1.size ≤ 1024 := Nat.le_trans (unhide HZw s1 (List.mem_of_getElem? hs1)) hs
            clear hnx2 hs1
            have hmb : decide (K + 1 < L.length) = true := by simp [hmore]
            have HMB := hide hmb
            clear hmb
            have hmode := unhide HMODE
            subst hmode
            by_cases hG1 : 1 ≤ G
            · have HLN := hide (line_d (W := W) (l := l) (by rw [← unhide HT]; have := unhide HG0; omega))
              obtain ⟨BE, AF, hBE, hAF, hbe, haf⟩ : ∃ BE AF : Nat, (0 : Int) = (BE : Int) ∧ (0 : Int) = (AF : Int) ∧ BE = 0 ∧ AF = 0 := ⟨_, _, by omega, by omega, rfl, rfl⟩
              obtain ⟨SH, hSH⟩ : ∃ SH, SH = (W - jlen l) / (l.length - 1) := ⟨_, rfl⟩
              obtain ⟨WD, hWD⟩ : ∃ WD, WD = (W - jlen l) % (l.length - 1) := ⟨_, rfl⟩
              have hPj : W - jlen l = P := by have := unhide HP0; have := unhide HSJ; omega
              have hGj : l.length - 1 = G := by have := unhide HG0; have := unhide HT; omega
              have hq1 : (P : Int) / (G : Int) = (SH : Int) := by rw [hSH, hPj, hGj, Int.natCast_ediv]
              have hq2 : (P : Int) % (G : Int) = (WD : Int) := by rw [hWD, hPj, hGj, Int.natCast_emod]
              have hSH2 : SH ≤ 65536 := by rw [hSH]; exact Nat.le_trans (Nat.div_le_self _ _) (by omega)
              have HLI : Hid (LineIs W 3 (decide (K + 1 < L.length)) l BE SH WD AF) := by
                show LineIs _ _ _ _ _ _ _ _
                rw [unhide HMB, hbe, haf]
                have h := unhide HLN
                rw [← hSH, ← hWD] at h
                exact h
              have hln := (unhide HLI).len (unhide HLJ)
              have HML : Hid (∀ q, q ≤ t → (midL l SH WD q).length ≤ 65536) := fun q hq => by
                have h1 := midL_mono l SH WD q (t - q)
                rw [show q + (t - q) = t by omega, unhide HT] at h1
                omega
              have HBEH := hide hBE
              have HAFH := hide hAF
              have hbe2 : BE ≤ 65536 := by omega
              have haf2 : AF ≤ 65536 := by omega
              clear HLN hbe haf hln hBE hAF hSH hWD hPj hGj
              go_wp2_with fail
              (try rw [hq1]); (try rw [hq2])
              refine (jpad_any x1.heap.size _ _ ((0 : Int)) _ hbuf hB (by have := unhide HBEH; omega) (by have := unhide HBEH; omega) (by omega)).mono ?_
              rintro e y1 ⟨v1, rfl, hu1, hg1, -⟩
              have B1 := Below.of_grown hbr hbuf hB hg1
              rw [unhide HBEH, Int.toNat_natCast] at hu1
              clear hg1 hbuf hbr hP hG hq1 hq2
              go_wp2
              go_loopw [10, 20] (fun v k wr => ∃ kk : Nat, A ≤ kk ∧ kk ≤ J ∧ k = .int .i64 kk ∧ Buf wr x1.heap.size v (pre ++ spaces BE ++ midL l SH WD (kk - A)) ∧ Below x1.heap.size x1 wr) (fun _ k _ => J - (intOf k).toNat)
              case atStart => exact ⟨A, Nat.le_refl _, by omega, rfl, by rw [Nat.sub_self]; simpa [midL] using hu1, B1⟩
              case round =>
                obtain ⟨kk, hk1, hk2, rfl, hu, hbx⟩ := hrel
                clear hu1 B1
                have hBx := hbx.size
                have hlq : (pre ++ spaces BE ++ midL l SH WD (kk - A)).length ≤ 70000000 := by
                  have h1 := unhide HML (kk - A) (by have := unhide HJ; omega)
                  rw [List.length_append, List.length_append, spaces_length]
                  omega
                have hlb : (bytesV (pre ++ spaces BE ++ midL l SH WD (kk - A))).length ≤ 70000000 := by rw [bytesV_length]; exact hlq
                by_cases hkJ : kk < J
                · obtain ⟨b2, off2, s2, ha2, hs2, -, hbl2, hcx⟩ := hSw.nth kk (by omega)
                  first | subst ha2 | (simp at ha2; obtain ⟨rfl, rfl⟩ := ha2)
                  have hc2 := (hbx.cell (p := ⟨b0, off0 + kk, none⟩) hbl2).trans hcx
                  have hsz2 : s2.size ≤ 1024 := Nat.le_trans (unhide HZw s2 (List.mem_of_getElem? hs2)) hs
                  have hl2 : l[kk - A]? = some s2 := by
                    have h1 := (unhide HST).word (t := kk - A) (by rw [← unhide HT]; have := unhide HJ; omega)
                    rw [show A + (kk - A) = kk by omega, hs2] at h1
                    exact h1.symm
                  have hms := midL_succ (sh := SH) (wd := WD) hl2
                  rw [show kk - A + 1 = kk + 1 - A by omega] at hms
                  clear hs2 hl2
                  by_cases hfst : A < kk
                  · rw [if_neg (show ¬ kk - A = 0 by omega)] at hms
                    have hfb : decide (A < kk) = true := by simp [hfst]
                    by_cases hgw : kk - A ≤ WD
                    · rw [if_pos hgw] at hms
                      have HMS := hide hms
                      clear hms
                      have hgb : (kk : Int) - (A : Int) ≤ (WD : Int) := by omega
                      have hgd : decide ((kk : Int) - (A : Int) ≤ (WD : Int)) = true := by simp; omega
                      go_wp2_with fail
                      refine (jpad_any x1.heap.size _ _ ((1 : Int) + (SH : Int) + 1) _ hu hBx (by omega) (by omega) (by omega)).mono ?_
                      rintro e y2 ⟨v2, rfl, hu2, hg2, -⟩
                      have B2 := Below.of_grown hbx hu hBx hg2
                      have hB2 := B2.size
                      rw [show ((1 : Int) + (SH : Int) + 1).toNat = 1 + SH + 1 by omega] at hu2
                      have hl5 : (bytesV (pre ++ spaces BE ++ midL l SH WD (kk - A) ++ spaces (1 + SH + 1))).length ≤ 80000000 := by rw [bytesV_length, List.length_append, spaces_length]; omega
                      have hc3 := (B2.cell (p := ⟨b0, off0 + kk, none⟩) hbl2).trans hcx
                      clear hc2 hu hbx hg2
                      go_wp2_with (at_builtin; go_must (refine wpList_append_str rfl (.tmp 140) (.tmp 144) 28 9 rfl x1.heap.size 5 i0 Ydlm.underlying28 Ydlm.underlying9 hi hz0 hz1 hz2 v2 _ rfl y2 hu2 hB2 s2 rfl (by omega) ?_); intro v3 w3 hu3 hg3 hn3)
                      have R1 : Buf w3 x1.heap.size v3 (pre ++ spaces BE ++ midL l SH WD (kk + 1 - A)) := by
                        rw [unhide HMS, ← List.append_assoc, ← List.append_assoc, Buf, bytesV_append]; exact hu3
                      have R2 := Below.of_grown B2 hu2 hB2 hg3
                      clear hu3 hg3 hn3 hu2 B2
                      go_wp2
                      go_roundw
                      case rel => first | exact ⟨kk + 1, by omega, by omega, by go_num, R1, R2⟩ | ((repeat apply Exists.intro); exact ⟨⟨kk + 1, by omega, by omega, by go_num, R1, R2⟩, rfl⟩)
                      case measure => simp [intOf]; omega
                    · rw [if_neg hgw] at hms
                      have HMS := hide hms
                      clear hms
                      have hgb : ¬ (kk : Int) - (A : Int) ≤ (WD : Int) := by omega
                      have hgd : decide ((kk : Int) - (A : Int) ≤ (WD : Int)) = false := by simp; omega
                      go_wp2_with fail
                      refine (jpad_any x1.heap.size _ _ ((1 : Int) + (SH : Int)) _ hu hBx (by omega) (by omega) (by omega)).mono ?_
                      rintro e y2 ⟨v2, rfl, hu2, hg2, -⟩
                      have B2 := Below.of_grown hbx hu hBx hg2
                      have hB2 := B2.size
                      rw [show ((1 : Int) + (SH : Int)).toNat = 1 + SH + 0 by omega] at hu2
                      have hl5 : (bytesV (pre ++ spaces BE ++ midL l SH WD (kk - A) ++ spaces (1 + SH + 0))).length ≤ 80000000 := by rw [bytesV_length, List.length_append, spaces_length]; omega
                      have hc3 := (B2.cell (p := ⟨b0, off0 + kk, none⟩) hbl2).trans hcx
                      clear hc2 hu hbx hg2
                      go_wp2_with (at_builtin; go_must (refine wpList_append_str rfl (.tmp 140) (.tmp 144) 28 9 rfl x1.heap.size 5 i0 Ydlm.underlying28 Ydlm.underlying9 hi hz0 hz1 hz2 v2 _ rfl y2 hu2 hB2 s2 rfl (by omega) ?_); intro v3 w3 hu3 hg3 hn3)
                      have R1 : Buf w3 x1.heap.size v3 (pre ++ spaces BE ++ midL l SH WD (kk + 1 - A)) := by
                        rw [unhide HMS, ← List.append_assoc, ← List.append_assoc, Buf, bytesV_append]; exact hu3
                      have R2 := Below.of_grown B2 hu2 hB2 hg3
                      clear hu3 hg3 hn3 hu2 B2
                      go_wp2
                      go_roundw
                      case rel => first | exact ⟨kk + 1, by omega, by omega, by go_num, R1, R2⟩ | ((repeat apply Exists.intro); exact ⟨⟨kk + 1, by omega, by omega, by go_num, R1, R2⟩, rfl⟩)
                      case measure => simp [intOf]; omega
                  · obtain rfl : kk = A := by omega
                    rw [if_pos (show kk - kk = 0 by omega), List.append_nil] at hms
                    have HMS := hide hms
                    have hfb : decide (kk < kk) = false := by simp
                    clear hms
                    go_wp2_with (at_builtin; go_must (refine wpList_append_str rfl (.tmp 140) (.tmp 144) 28 9 rfl x1.heap.size 5 i0 Ydlm.underlying28 Ydlm.underlying9 hi hz0 hz1 hz2 u10 _ rfl wr hu hBx s2 rfl (by omega) ?_); intro v3 w3 hu3 hg3 hn3)
                    have R1 : Buf w3 x1.heap.size v3 (pre ++ spaces BE ++ midL l SH WD (kk + 1 - kk)) := by
                      rw [unhide HMS, ← List.append_assoc, Buf, bytesV_append]; exact hu3
                    have R2 := Below.of_grown hbx hu hBx hg3
                    clear hu3 hg3 hn3 hu hbx
                    go_wp2
                    go_roundw
                    case rel => first | exact ⟨kk + 1, by omega, by omega, by go_num, R1, R2⟩ | ((repeat apply Exists.intro); exact ⟨⟨kk + 1, by omega, by omega, by go_num, R1, R2⟩, rfl⟩)
                    case measure => simp [intOf]; omega
                · obtain rfl : kk = J := by omega
                  have hkt : kk - A = t := by have := unhide HJ; omega
                  rw [hkt] at hu hlq
                  clear hkt hlb
                  generalize wr = Y at *
                  go_wp2_with fail
                  refine (jpad_any x1.heap.size _ _ ((0 : Int)) _ hu hBx (by have := unhide HAFH; omega) (by have := unhide HAFH; omega) (by omega)).mono ?_
                  rintro e y2 ⟨v2, rfl, hu2, hg2, -⟩
                  have B2 := Below.of_grown hbx hu hBx hg2
                  have hB2 := B2.size
                  rw [unhide HAFH, Int.toNat_natCast] at hu2
                  have hl4 : (bytesV (pre ++ spaces BE ++ midL l SH WD t ++ spaces AF)).length ≤ 80000000 := by rw [bytesV_length, List.length_append, spaces_length]; omega
                  clear hg2 hu hbx hlq
                  go_wp2_with (at_builtin; go_must (refine wpList_append1 rfl (.tmp 149) (.tmp 150) 28 rfl x1.heap.size 5 i0 (.int .u8 0) 1 Ydlm.underlying28 hi hz0 hz1 hz2 rfl v2 _ rfl y2 (.int .u8 10) rfl hu2 hB2 rfl (by omega) (by unfold maxLen; omega) ?_); intro v4 w4 hu4 hg4 hat4 hne4)
                  have R1 : Buf w4 x1.heap.size v4 (glue (fillPre W 3 L (K + 1))) := by
                    rw [fillPre_succ (unhide HST).line, glue_append, ← unhide HPRE, unhide HLI, ← unhide HT]
                    have e : glue [spaces BE ++ midL l SH WD t ++ spaces AF] = spaces BE ++ midL l SH WD t ++ spaces AF ++ [10] := by simp [glue]
                    rw [e, ← List.append_assoc, Buf, bytesV_append, show bytesV [10] = [Value.int .u8 10] from rfl]
                    simpa [List.append_assoc] using hu4
                  have R2 := Below.of_grown B2 hu2 hB2 hg4
                  clear hu4 hg4 hat4 hne4 hu2 B2 hl4
                  go_wp2
                  go_roundw
                  case rel => first | exact ⟨K + 1, kk, by omega, rfl, R1, ⟨by omega, unhide HNX⟩, R2⟩ | ((repeat apply Exists.intro); exact ⟨⟨K + 1, kk, by omega, rfl, R1, ⟨by omega, unhide HNX⟩, R2⟩, rfl⟩)
                  case measure => simp [intOf]; omega
            · obtain rfl : G = 0 := by omega
              have HLN := hide (line_c (W := W) (l := l) (by rw [← unhide HT]; have := unhide HG0; omega))
              obtain ⟨BE, AF, hBE, hAF, hbe, haf⟩ : ∃ BE AF : Nat, (0 : Int) = (BE : Int) ∧ (P : Int) = (AF : Int) ∧ BE = 0 ∧ AF = P := ⟨_, _, by omega, by omega, rfl, rfl⟩
              have hPj : W - jlen l = P := by have := unhide HP0; have := unhide HSJ; omega
              have HLI : Hid (LineIs W 3 (decide (K + 1 < L.length)) l BE 0 0 AF) := by
                show LineIs _ _ _ _ _ _ _ _
                rw [unhide HMB, hbe, haf]
                have h := unhide HLN
                rw [hPj] at h
                exact h
              have hln := (unhide HLI).len (unhide HLJ)
              have HML : Hid (∀ q, q ≤ t → (midL l 0 0 q).length ≤ 65536) := fun q hq => by
                have h1 := midL_mono l 0 0 q (t - q)
                rw [show q + (t - q) = t by omega, unhide HT] at h1
                omega
              have HBEH := hide hBE
              have HAFH := hide hAF
              have hbe2 : BE ≤ 65536 := by omega
              have haf2 : AF ≤ 65536 := by omega
              clear HLN hbe haf hln hBE hAF hPj
              go_wp2_with fail

              refine (jpad_any x1.heap.size _ _ ((0 : Int)) _ hbuf hB (by have := unhide HBEH; omega) (by have := unhide HBEH; omega) (by omega)).mono ?_
              rintro e y1 ⟨v1, rfl, hu1, hg1, -⟩
              have B1 := Below.of_grown hbr hbuf hB hg1
              rw [unhide HBEH, Int.toNat_natCast] at hu1
              clear hg1 hbuf hbr hP hG 
              go_wp2
              go_loopw [10, 20] (fun v k wr => ∃ kk : Nat, A ≤ kk ∧ kk ≤ J ∧ k = .int .i64 kk ∧ Buf wr x1.heap.size v (pre ++ spaces BE ++ midL l 0 0 (kk - A)) ∧ Below x1.heap.size x1 wr) (fun _ k _ => J - (intOf k).toNat)
              case atStart => exact ⟨A, Nat.le_refl _, by omega, rfl, by rw [Nat.sub_self]; simpa [midL] using hu1, B1⟩
              case round =>
                obtain ⟨kk, hk1, hk2, rfl, hu, hbx⟩ := hrel
                clear hu1 B1
                have hBx := hbx.size
                have hlq : (pre ++ spaces BE ++ midL l 0 0 (kk - A)).length ≤ 70000000 := by
                  have h1 := unhide HML (kk - A) (by have := unhide HJ; omega)
                  rw [List.length_append, List.length_append, spaces_length]
                  omega
                have hlb : (bytesV (pre ++ spaces BE ++ midL l 0 0 (kk - A))).length ≤ 70000000 := by rw [bytesV_length]; exact hlq
                by_cases hkJ : kk < J
                · obtain ⟨b2, off2, s2, ha2, hs2, -, hbl2, hcx⟩ := hSw.nth kk (by omega)
                  first | subst ha2 | (simp at ha2; obtain ⟨rfl, rfl⟩ := ha2)
                  have hc2 := (hbx.cell (p := ⟨b0, off0 + kk, none⟩) hbl2).trans hcx
                  have hsz2 : s2.size ≤ 1024 := Nat.le_trans (unhide HZw s2 (List.mem_of_getElem? hs2)) hs
                  have hl2 : l[kk - A]? = some s2 := by
                    have h1 := (unhide HST).word (t := kk - A) (by rw [← unhide HT]; have := unhide HJ; omega)
                    rw [show A + (kk - A) = kk by omega, hs2] at h1
                    exact h1.symm
                  have hms := midL_succ (sh := 0) (wd := 0) hl2
                  rw [show kk - A + 1 = kk + 1 - A by omega] at hms
                  clear hs2 hl2
                  by_cases hfst : A < kk
                  · rw [if_neg (show ¬ kk - A = 0 by omega)] at hms
                    have hfb : decide (A < kk) = true := by simp [hfst]
                    rw [if_neg (show ¬ kk - A ≤ 0 by omega)] at hms
                    have HMS := hide hms
                    clear hms
                    have hgb : ¬ (kk : Int) - (A : Int) ≤ 0 := by omega
                    have hgd : decide ((kk : Int) - (A : Int) ≤ 0) = false := by simp; omega
                    go_wp2_with fail
                    refine (jpad_any x1.heap.size _ _ ((1 : Int)) _ hu hBx (by omega) (by omega) (by omega)).mono ?_
                    rintro e y2 ⟨v2, rfl, hu2, hg2, -⟩
                    have B2 := Below.of_grown hbx hu hBx hg2
                    have hB2 := B2.size
                    rw [show ((1 : Int)).toNat = 1 + 0 + 0 by omega] at hu2
                    have hl5 : (bytesV (pre ++ spaces BE ++ midL l 0 0 (kk - A) ++ spaces (1 + 0 + 0))).length ≤ 80000000 := by rw [bytesV_length, List.length_append, spaces_length]; omega
                    have hc3 := (B2.cell (p := ⟨b0, off0 + kk, none⟩) hbl2).trans hcx
                    clear hc2 hu hbx hg2
                    go_wp2_with (at_builtin; go_must (refine wpList_append_str rfl (.tmp 140) (.tmp 144) 28 9 rfl x1.heap.size 5 i0 Ydlm.underlying28 Ydlm.underlying9 hi hz0 hz1 hz2 v2 _ rfl y2 hu2 hB2 s2 rfl (by omega) ?_); intro v3 w3 hu3 hg3 hn3)
                    have R1 : Buf w3 x1.heap.size v3 (pre ++ spaces BE ++ midL l 0 0 (kk + 1 - A)) := by
                      rw [unhide HMS, ← List.append_assoc, ← List.append_assoc, Buf, bytesV_append]; exact hu3
                    have R2 := Below.of_grown B2 hu2 hB2 hg3
                    clear hu3 hg3 hn3 hu2 B2
                    go_wp2
                    go_roundw
                    case rel => first | exact ⟨kk + 1, by omega, by omega, by go_num, R1, R2⟩ | ((repeat apply Exists.intro); exact ⟨⟨kk + 1, by omega, by omega, by go_num, R1, R2⟩, rfl⟩)
                    case measure => simp [intOf]; omega
                  · obtain rfl : kk = A := by omega
                    rw [if_pos (show kk - kk = 0 by omega), List.append_nil] at hms
                    have HMS := hide hms
                    have hfb : decide (kk < kk) = false := by simp
                    clear hms
                    go_wp2_with (at_builtin; go_must (refine wpList_append_str rfl (.tmp 140) (.tmp 144) 28 9 rfl x1.heap.size 5 i0 Ydlm.underlying28 Ydlm.underlying9 hi hz0 hz1 hz2 u10 _ rfl wr hu hBx s2 rfl (by omega) ?_); intro v3 w3 hu3 hg3 hn3)
                    have R1 : Buf w3 x1.heap.size v3 (pre ++ spaces BE ++ midL l 0 0 (kk + 1 - kk)) := by
                      rw [unhide HMS, ← List.append_assoc, Buf, bytesV_append]; exact hu3
                    have R2 := Below.of_grown hbx hu hBx hg3
                    clear hu3 hg3 hn3 hu hbx
                    go_wp2
                    go_roundw
                    case rel => first | exact ⟨kk + 1, by omega, by omega, by go_num, R1, R2⟩ | ((repeat apply Exists.intro); exact ⟨⟨kk + 1, by omega, by omega, by go_num, R1, R2⟩, rfl⟩)
                    case measure => simp [intOf]; omega
                · obtain rfl : kk = J := by omega
                  have hkt : kk - A = t := by have := unhide HJ; omega
                  rw [hkt] at hu hlq
                  clear hkt hlb
                  generalize wr = Y at *
                  go_wp2_with fail
                  refine (jpad_any x1.heap.size _ _ ((P : Int)) _ hu hBx (by have := unhide HAFH; omega) (by have := unhide HAFH; omega) (by omega)).mono ?_
                  rintro e y2 ⟨v2, rfl, hu2, hg2, -⟩
                  have B2 := Below.of_grown hbx hu hBx hg2
                  have hB2 := B2.size
                  rw [unhide HAFH, Int.toNat_natCast] at hu2
                  have hl4 : (bytesV (pre ++ spaces BE ++ midL l 0 0 t ++ spaces AF)).length ≤ 80000000 := by rw [bytesV_length, List.length_append, spaces_length]; omega
                  clear hg2 hu hbx hlq
                  go_wp2_with (at_builtin; go_must (refine wpList_append1 rfl (.tmp 149) (.tmp 150) 28 rfl x1.heap.size 5 i0 (.int .u8 0) 1 Ydlm.underlying28 hi hz0 hz1 hz2 rfl v2 _ rfl y2 (.int .u8 10) rfl hu2 hB2 rfl (by omega) (by unfold maxLen; omega) ?_); intro v4 w4 hu4 hg4 hat4 hne4)
                  have R1 : Buf w4 x1.heap.size v4 (glue (fillPre W 3 L (K + 1))) := by
                    rw [fillPre_succ (unhide HST).line, glue_append, ← unhide HPRE, unhide HLI, ← unhide HT]
                    have e : glue [spaces BE ++ midL l 0 0 t ++ spaces AF] = spaces BE ++ midL l 0 0 t ++ spaces AF ++ [10] := by simp [glue]
                    rw [e, ← List.append_assoc, Buf, bytesV_append, show bytesV [10] = [Value.int .u8 10] from rfl]
                    simpa [List.append_assoc] using hu4
                  have R2 := Below.of_grown B2 hu2 hB2 hg4
                  clear hu4 hg4 hat4 hne4 hu2 B2 hl4
                  go_wp2
                  go_roundw
                  case rel => first | exact ⟨K + 1, kk, by omega, rfl, R1, ⟨by omega, unhide HNX⟩, R2⟩ | ((repeat apply Exists.intro); exact ⟨⟨K + 1, kk, by omega, rfl, R1, ⟨by omega, unhide HNX⟩, R2⟩, rfl⟩)
                  case measure => simp [intOf]; omega
          · have hlast := (unhide HST).last (unhide HNE) hmore
            rw [unhide HN, ← unhide HT, ← unhide HJ] at hlast
            have hJn : ¬ J < n := by omega
            clear hlast
            have hmb : decide (K + 1 < L.length) = false := by simp; omega
            have HMB := hide hmb
            clear hmb
            have hmode := unhide HMODE
            subst hmode
            have HLN := hide (line_b (W := W) (l := l))
            obtain ⟨BE, AF, hBE, hAF, hbe, haf⟩ : ∃ BE AF : Nat, (0 : Int) = (BE : Int) ∧ (P : Int) = (AF : Int) ∧ BE = 0 ∧ AF = P := ⟨_, _, by omega, by omega, rfl, rfl⟩
            have hPj : W - jlen l = P := by have := unhide HP0; have := unhide HSJ; omega
            have HLI : Hid (LineIs W 3 (decide (K + 1 < L.length)) l BE 0 0 AF) := by
              show LineIs _ _ _ _ _ _ _ _
              rw [unhide HMB, hbe, haf]
              have h := unhide HLN
              rw [hPj] at h
              exact h
            have hln := (unhide HLI).len (unhide HLJ)
            have HML : Hid (∀ q, q ≤ t → (midL l 0 0 q).length ≤ 65536) := fun q hq => by
              have h1 := midL_mono l 0 0 q (t - q)
              rw [show q + (t - q) = t by omega, unhide HT] at h1
              omega
            have HBEH := hide hBE
            have HAFH := hide hAF
            have hbe2 : BE ≤ 65536 := by omega
            have haf2 : AF ≤ 65536 := by omega
            clear HLN hbe haf hln hBE hAF hPj
            go_wp2_with fail

            refine (jpad_any x1.heap.size _ _ ((0 : Int)) _ hbuf hB (by have := unhide HBEH; omega) (by have := unhide HBEH; omega) (by omega)).mono ?_
            rintro e y1 ⟨v1, rfl, hu1, hg1, -⟩
            have B1 := Below.of_grown hbr hbuf hB hg1
            rw [unhide HBEH, Int.toNat_natCast] at hu1
            clear hg1 hbuf hbr hP hG 
            go_wp2
            go_loopw [10, 20] (fun v k wr => ∃ kk : Nat, A ≤ kk ∧ kk ≤ J ∧ k = .int .i64 kk ∧ Buf wr x1.heap.size v (pre ++ spaces BE ++ midL l 0 0 (kk - A)) ∧ Below x1.heap.size x1 wr) (fun _ k _ => J - (intOf k).toNat)
            case atStart => exact ⟨A, Nat.le_refl _, by omega, rfl, by rw [Nat.sub_self]; simpa [midL] using hu1, B1⟩
            case round =>
              obtain ⟨kk, hk1, hk2, rfl, hu, hbx⟩ := hrel
              clear hu1 B1
              have hBx := hbx.size
              have hlq : (pre ++ spaces BE ++ midL l 0 0 (kk - A)).length ≤ 70000000 := by
                have h1 := unhide HML (kk - A) (by have := unhide HJ; omega)
                rw [List.length_append, List.length_append, spaces_length]
                omega
              have hlb : (bytesV (pre ++ spaces BE ++ midL l 0 0 (kk - A))).length ≤ 70000000 := by rw [bytesV_length]; exact hlq
              by_cases hkJ : kk < J
              · obtain ⟨b2, off2, s2, ha2, hs2, -, hbl2, hcx⟩ := hSw.nth kk (by omega)
                first | subst ha2 | (simp at ha2; obtain ⟨rfl, rfl⟩ := ha2)
                have hc2 := (hbx.cell (p := ⟨b0, off0 + kk, none⟩) hbl2).trans hcx
                have hsz2 : s2.size ≤ 1024 := Nat.le_trans (unhide HZw s2 (List.mem_of_getElem? hs2)) hs
                have hl2 : l[kk - A]? = some s2 := by
                  have h1 := (unhide HST).word (t := kk - A) (by rw [← unhide HT]; have := unhide HJ; omega)
                  rw [show A + (kk - A) = kk by omega, hs2] at h1
                  exact h1.symm
                have hms := midL_succ (sh := 0) (wd := 0) hl2
                rw [show kk - A + 1 = kk + 1 - A by omega] at hms
                clear hs2 hl2
                by_cases hfst : A < kk
                · rw [if_neg (show ¬ kk - A = 0 by omega)] at hms
                  have hfb : decide (A < kk) = true := by simp [hfst]
                  rw [if_neg (show ¬ kk - A ≤ 0 by omega)] at hms
                  have HMS := hide hms
                  clear hms
                  have hgb : ¬ (kk : Int) - (A : Int) ≤ 0 := by omega
                  have hgd : decide ((kk : Int) - (A : Int) ≤ 0) = false := by simp; omega
                  go_wp2_with fail
                  refine (jpad_any x1.heap.size _ _ ((1 : Int)) _ hu hBx (by omega) (by omega) (by omega)).mono ?_
                  rintro e y2 ⟨v2, rfl, hu2, hg2, -⟩
                  have B2 := Below.of_grown hbx hu hBx hg2
                  have hB2 := B2.size
                  rw [show ((1 : Int)).toNat = 1 + 0 + 0 by omega] at hu2
                  have hl5 : (bytesV (pre ++ spaces BE ++ midL l 0 0 (kk - A) ++ spaces (1 + 0 + 0))).length ≤ 80000000 := by rw [bytesV_length, List.length_append, spaces_length]; omega
                  have hc3 := (B2.cell (p := ⟨b0, off0 + kk, none⟩) hbl2).trans hcx
                  clear hc2 hu hbx hg2
                  go_wp2_with (at_builtin; go_must (refine wpList_append_str rfl (.tmp 140) (.tmp 144) 28 9 rfl x1.heap.size 5 i0 Ydlm.underlying28 Ydlm.underlying9 hi hz0 hz1 hz2 v2 _ rfl y2 hu2 hB2 s2 rfl (by omega) ?_); intro v3 w3 hu3 hg3 hn3)
                  have R1 : Buf w3 x1.heap.size v3 (pre ++ spaces BE ++ midL l 0 0 (kk + 1 - A)) := by
                    rw [unhide HMS, ← List.append_assoc, ← List.append_assoc, Buf, bytesV_append]; exact hu3
                  have R2 := Below.of_grown B2 hu2 hB2 hg3
                  clear hu3 hg3 hn3 hu2 B2
                  go_wp2
                  go_roundw
                  case rel => first | exact ⟨kk + 1, by omega, by omega, by go_num, R1, R2⟩ | ((repeat apply Exists.intro); exact ⟨⟨kk + 1, by omega, by omega, by go_num, R1, R2⟩, rfl⟩)
                  case measure => simp [intOf]; omega
                · obtain rfl : kk = A := by omega
                  rw [if_pos (show kk - kk = 0 by omega), List.append_nil] at hms
                  have HMS := hide hms
                  have hfb : decide (kk < kk) = false := by simp
                  clear hms
                  go_wp2_with (at_builtin; go_must (refine wpList_append_str rfl (.tmp 140) (.tmp 144) 28 9 rfl x1.heap.size 5 i0 Ydlm.underlying28 Ydlm.underlying9 hi hz0 hz1 hz2 u10 _ rfl wr hu hBx s2 rfl (by omega) ?_); intro v3 w3 hu3 hg3 hn3)
                  have R1 : Buf w3 x1.heap.size v3 (pre ++ spaces BE ++ midL l 0 0 (kk + 1 - kk)) := by
                    rw [unhide HMS, ← List.append_assoc, Buf, bytesV_append]; exact hu3
                  have R2 := Below.of_grown hbx hu hBx hg3
                  clear hu3 hg3 hn3 hu hbx
                  go_wp2
                  go_roundw
                  case rel => first | exact ⟨kk + 1, by omega, by omega, by go_num, R1, R2⟩ | ((repeat apply Exists.intro); exact ⟨⟨kk + 1, by omega, by omega, by go_num, R1, R2⟩, rfl⟩)
                  case measure => simp [intOf]; omega
              · obtain rfl : kk = J := by omega
                have hkt : kk - A = t := by have := unhide HJ; omega
                rw [hkt] at hu hlq
                clear hkt hlb
                generalize wr = Y at *
                go_wp2_with fail
                refine (jpad_any x1.heap.size _ _ ((P : Int)) _ hu hBx (by have := unhide HAFH; omega) (by have := unhide HAFH; omega) (by omega)).mono ?_
                rintro e y2 ⟨v2, rfl, hu2, hg2, -⟩
                have B2 := Below.of_grown hbx hu hBx hg2
                have hB2 := B2.size
                rw [unhide HAFH, Int.toNat_natCast] at hu2
                have hl4 : (bytesV (pre ++ spaces BE ++ midL l 0 0 t ++ spaces AF)).length ≤ 80000000 := by rw [bytesV_length, List.length_append, spaces_length]; omega
                clear hg2 hu hbx hlq
                go_wp2_with (at_builtin; go_must (refine wpList_append1 rfl (.tmp 149) (.tmp 150) 28 rfl x1.heap.size 5 i0 (.int .u8 0) 1 Ydlm.underlying28 hi hz0 hz1 hz2 rfl v2 _ rfl y2 (.int .u8 10) rfl hu2 hB2 rfl (by omega) (by unfold maxLen; omega) ?_); intro v4 w4 hu4 hg4 hat4 hne4)
                have R1 : Buf w4 x1.heap.size v4 (glue (fillPre W 3 L (K + 1))) := by
                  rw [fillPre_succ (unhide HST).line, glue_append, ← unhide HPRE, unhide HLI, ← unhide HT]
                  have e : glue [spaces BE ++ midL l 0 0 t ++ spaces AF] = spaces BE ++ midL l 0 0 t ++ spaces AF ++ [10] := by simp [glue]
                  rw [e, ← List.append_assoc, Buf, bytesV_append, show bytesV [10] = [Value.int .u8 10] from rfl]
                  simpa [List.append_assoc] using hu4
                have R2 := Below.of_grown B2 hu2 hB2 hg4
                clear hu4 hg4 hat4 hne4 hu2 B2 hl4
                go_wp2
                go_roundw
                case rel => first | exact ⟨K + 1, kk, by omega, rfl, R1, ⟨by omega, unhide HNX⟩, R2⟩ | ((repeat apply Exists.intro); exact ⟨⟨K + 1, kk, by omega, rfl, R1, ⟨by omega, unhide HNX⟩, R2⟩, rfl⟩)
                case measure => simp [intOf]; omega
    · have hKL : Hid (K = L.length) := by
        show _ = _
        obtain ⟨h1, h2⟩ := unhide HKA
        by_cases h3 : K < L.length
        · obtain ⟨h4, h5⟩ := unhide HGL L[K] (List.getElem_mem h3)
          have h6 : MSt L ws K A L[K] := ⟨unhide HFL, List.getElem?_eq_getElem h3, h2⟩
          have h7 := h6.le h4
          rw [unhide HN] at h7
          have := List.length_pos_iff.2 h4
          omega
        · omega
      obtain ⟨r, hr⟩ : ∃ r : ByteArray, r = ⟨(glue (fillPre W mode L K)).toArray⟩ := ⟨_, rfl⟩
      have HR : Hid (r.data.toList = fillL W mode L) := by show _ = _; rw [hr, fillL, unhide hKL]
      have hcv := run_string_of_buf (P := Ydlm.prog) X 28 9 Ydlm.underlying28 Ydlm.underlying5 Ydlm.underlying9 hbuf
      rw [← hr] at hcv
      have HB2 := hide ((unhide HB0).trans (hbr.mono (unhide HB0).size))
      clear hbuf hr hbr
      go_wp2
      go_ret2
      refine ⟨r, rfl, ?_, unhide HB2⟩
      rw [unhide HWS, unhide HWR]
      exact HR
end Go.Proofs.Ymbrdl
