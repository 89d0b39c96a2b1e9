import Derived.Test.YmbrdjBLaws
set_option linter.unusedSimpArgs false
set_option linter.unusedVariables false
namespace Go.Proofs.Ymbrdj
open Go.RowKit

/-- What the law builds: the gap ahead of each word but the first. -/
def wpre (ss : List ByteArray) (g room : Nat) : Nat → List UInt8
  | 0 => []
  | k + 1 => wpre ss g room k ++ (match ss[k]? with
    | some s => spaces (if k = 0 then 0 else 1 + (room + g - k) / g) ++ s.data.toList
    | .none => [])
theorem wpre_succ {ss : List ByteArray} {g room k : Nat} {s : ByteArray} (h : ss[k]? = some s) : wpre ss g room (k + 1) = wpre ss g room k ++ spaces (if k = 0 then 0 else 1 + (room + g - k) / g) ++ s.data.toList := by
  rw [wpre, h]; simp
theorem gap_eq {room g k : Nat} (hg : 0 < g) (h1 : 1 ≤ k) (h2 : k ≤ g) : (room + g - k) / g = room / g + (if k - 1 < room % g then 1 else 0) := by
  have hd := Nat.div_add_mod room g
  have hm := Nat.mod_lt room hg
  have e : room + g - k = g * (room / g) + (room % g + g - k) := by
    generalize g * (room / g) = q at *
    omega
  rw [e, Nat.mul_add_div hg]
  congr 1
  split
  · rw [Nat.div_eq_of_lt_le (k := 1) (by omega) (by omega)]
  · rw [Nat.div_eq_of_lt (by omega)]
theorem spaces_app (a b : Nat) : spaces a ++ spaces b = spaces (a + b) := by simp [spaces]
theorem jpre_wpre {ss : List ByteArray} {g room : Nat} (hn : ss.length = g + 1) (hg : 0 < g) : ∀ k, k ≤ g + 1 → jpre ss g (room / g) (room % g) k = wpre ss g room k ++ (if 0 < k ∧ k ≤ g then spaces (1 + (room + g - k) / g) else [])
  | 0, _ => by simp [jpre, wpre]
  | k + 1, hk => by
    have hs : ss[k]? = some (ss[k]'(by omega)) := List.getElem?_eq_getElem _
    rw [jpre_succ hs, jpre_wpre hn hg k (by omega), wpre_succ hs]
    have e1 : (if 0 < k ∧ k ≤ g then spaces (1 + (room + g - k) / g) else []) = spaces (if k = 0 then 0 else 1 + (room + g - k) / g) := by
      by_cases h0 : k = 0
      · rw [if_neg (by omega), if_pos h0]; rfl
      · rw [if_pos (by omega), if_neg h0]
    have e2 : spaces (if k < g then 1 + room / g else 0) ++ spaces (if k < room % g then 1 else 0) = (if 0 < k + 1 ∧ k + 1 ≤ g then spaces (1 + (room + g - (k + 1)) / g) else []) := by
      have hm := Nat.mod_lt room hg
      rw [spaces_app]
      by_cases h0 : k < g
      · rw [if_pos h0, if_pos (show 0 < k + 1 ∧ k + 1 ≤ g by omega), gap_eq hg (by omega) (by omega), Nat.add_sub_cancel, Nat.add_assoc]
      · rw [if_neg h0, if_neg (show ¬ (0 < k + 1 ∧ k + 1 ≤ g) by omega), if_neg (show ¬ k < room % g by omega)]; rfl
    rw [e1, ← e2, List.append_assoc]
theorem jus_wpre {ss : List ByteArray} {g room : Nat} (hn : ss.length = g + 1) (hg : 0 < g) : jusL ss (jlen ss + room) = wpre ss g room (g + 1) := by
  unfold jusL
  rw [if_neg (by omega), hn, Nat.add_sub_cancel, Nat.add_sub_cancel_left, jpre_wpre hn hg (g + 1) (Nat.le_refl _), if_neg (by omega), List.append_nil]
theorem wpre_bound {ss : List ByteArray} {g room k W : Nat} (hn : ss.length = g + 1) (hg : 0 < g) (hk : k ≤ g + 1) (hW : (jusL ss (jlen ss + room)).length = W) : (wpre ss g room k).length ≤ W := by
  have h1 := jpre_wpre (room := room) hn hg k hk
  have h2 : (jpre ss g (room / g) (room % g) k).length ≤ W := by
    refine jpre_bound (by omega) ?_
    rw [hn, jpre_wpre hn hg (g + 1) (Nat.le_refl _), if_neg (by omega), List.append_nil, ← jus_wpre hn hg]; exact hW
  rw [h1, List.length_append] at h2
  omega

set_option maxHeartbeats 6000000 in
theorem bExact_many (a0 : Option Addr) (len0 cap0 : Nat) (z0 : List ByteArray) (a1 : Int) (w : World) (w0 : Strs w a0 len0 cap0 z0) (hc1 : 0 ≤ a1) (hc2 : a1 ≤ 65535) (hlen : 2 ≤ len0) :
    Calls Ydjm.prog 6 #[.slice a0 len0 cap0, .int .u16 a1] w fun e w' => e = .returned (.bool true) ∧ Below w.heap.size w w' := by
  obtain ⟨i0, hi, hz0, hz1, hz2⟩ := info_parts info5w
  have hle := w0.le
  have hmx := w0.max
  unfold maxLen at hmx
  have hl := hide w0.hlen
  obtain ⟨q, hq, hq3⟩ : ∃ q : Nat, a1 % 300 = (q : Int) ∧ q < 300 := ⟨(a1 % 300).toNat, by omega, by omega⟩
  go_enter Ydjm.func6, Ydjm.ntmps6
  go_wp2_with fail
  refine (bjoined_any _ _ _ z0 _ w0).mono ?_
  rintro e w' ⟨hx, hw⟩
  obtain rfl := hw.symm
  rcases hx with ⟨hn, rfl⟩ | ⟨hsm, rfl⟩
  · go_wp2
    go_ret
    exact ⟨rfl, Below.refl _ _⟩
  obtain ⟨hs1, hs2⟩ := hsm
  have hs3 : len0 ≤ 1024 := by have := unhide hl; omega
  have hjb : jlen z0 ≤ 33791 := by unfold jlen; omega
  go_wp2_with fail
  refine (justify_yes _ _ _ z0 _ _ w0 (by omega) (by omega) (by omega)).mono ?_
  rintro e x1 ⟨r, rfl, HR, HZ, hb1⟩
  obtain ⟨G, hG⟩ : ∃ G, len0 = G + 1 := ⟨len0 - 1, by omega⟩
  have hG1 : (len0 : Int) - 1 = (G : Int) := by omega
  have hn : z0.length = G + 1 := by rw [unhide hl]; exact hG
  have hE : r.data.toList = wpre z0 G q len0 := by
    have h1 := unhide HR
    rw [show ((jlen z0 : Int) + (q : Int)).toNat = jlen z0 + q by omega, jus_wpre hn (by omega), ← hG] at h1
    exact h1
  have hB : ∀ k, k ≤ len0 → (wpre z0 G q k).length ≤ 65536 := fun k hk => by
    refine Nat.le_trans (wpre_bound hn (by omega) (by omega) (jusL_length (by omega))) (by omega)
  have HE := hide hE
  have HB := hide hB
  have hG3 : 1 ≤ G := by omega
  have hG4 : G < len0 := by omega
  have hG5 : len0 ≤ G + 1 := by omega
  have hS1 := w0.below hb1
  clear hE hB hn hG HR HZ
  go_wp2
  clear hG1
  go_loopw [11, 12] (fun v i wr => ∃ k : Nat, k ≤ len0 ∧ i = .int .i64 k ∧ Buf wr x1.heap.size v (wpre z0 G q k) ∧ Below x1.heap.size x1 wr) (fun _ i _ => len0 - (intOf i).toNat)
  case atStart => exact ⟨0, Nat.zero_le _, rfl, Buf.nil _ _, Below.refl _ _⟩
  case round =>
    obtain ⟨k, hk, rfl, hu, hb⟩ := hrel
    by_cases hlt : k < len0
    · obtain ⟨b, off, s, rfl, hss, hsz, hbl, hc⟩ := hS1.nth k hlt
      have hF := wpre_succ (g := G) (room := q) hss
      have hl1 := unhide HB (k + 1) (by omega)
      rw [hF, List.length_append, List.length_append, spaces_length, show s.data.toList.length = s.size by simp] at hl1
      clear hss
      by_cases hk0 : k < 1
      · rw [if_pos (by omega), spaces_zero, List.append_nil] at hF
        have HF := hide hF
        have hc' : wr.cell? ⟨b, off + k, none⟩ = some (.string s) := (hb.cell (p := ⟨b, off + k, none⟩) hbl).trans hc
        have hBr := hb.size
        have hown : Own wr x1.heap.size 5 u11 (bytesV (wpre z0 G q k)) := hu
        have hl2 : (bytesV (wpre z0 G q k)).length + s.size ≤ 65536 := by rw [bytesV_length]; omega
        clear hF hc hl1
        go_wp2_with (at_builtin; go_must (refine wpList_append_str rfl (.tmp 63) (.tmp 67) 26 9 rfl x1.heap.size 5 i0 Ydjm.underlying26 Ydjm.underlying9 hi hz0 hz1 hz2 u11 _ rfl wr hown hBr s rfl (by omega) ?_); intro v2 w2 hu2 hg2 hn2)
        have R2 := Below.of_grown hb hown hBr hg2
        have R1 : Buf w2 x1.heap.size v2 (wpre z0 G q (k + 1)) := by rw [unhide HF, Buf, bytesV_append]; exact hu2
        clear hu2 hb hn2 hg2 hown hu
        go_wp2
        go_roundw
        case rel => exact ⟨k + 1, by omega, by go_num, R1, R2⟩
        case measure => simp [intOf]; omega
      · rw [if_neg (by omega)] at hF hl1
        obtain ⟨gp, hgp⟩ : ∃ gp, gp = (q + G - k) / G := ⟨_, rfl⟩
        rw [← hgp] at hF hl1
        have hgq : ((q : Int) + (G : Int) - (k : Int)) / (G : Int) = (gp : Int) := by
          rw [hgp, show (q : Int) + (G : Int) - (k : Int) = ((q + G - k : Nat) : Int) by omega, Int.natCast_ediv]
        have HF := hide hF
        have hkd : decide (0 < k) = true := by simp; omega
        clear hF hgp
        go_wp2
        rw [hgq]
        clear hgq
        go_loopw [11, 14] (fun v j wr => ∃ j' : Nat, j' ≤ 1 + gp ∧ j = .int .i64 j' ∧ Buf wr x1.heap.size v (wpre z0 G q k ++ spaces j') ∧ Below x1.heap.size x1 wr) (fun _ j _ => 1 + gp - (intOf j).toNat)
        case atStart => exact ⟨0, Nat.zero_le _, rfl, by simpa [spaces] using hu, hb⟩
        case round =>
          obtain ⟨j', hj', rfl, hu2, hbx⟩ := hrel
          have hBr := hbx.size
          by_cases hltj : j' < 1 + gp
          · have hlj : (bytesV (wpre z0 G q k ++ spaces j')).length ≤ 65536 := by rw [bytesV_length, List.length_append, spaces_length]; omega
            go_wp2_with (at_builtin; go_must (refine wpList_append1 rfl (.tmp 60) (.tmp 61) 26 rfl x1.heap.size 5 i0 (.int .u8 0) 1 Ydjm.underlying26 hi hz0 hz1 hz2 rfl u11 _ rfl wr (.int .u8 32) rfl hu2 hBr rfl (by omega) (by unfold maxLen; omega) ?_); intro v3 w3 hu3 hg3 hat3 hne3)
            have R2 := Below.of_grown hbx hu2 hBr hg3
            have R1 : Buf w3 x1.heap.size v3 (wpre z0 G q k ++ spaces (j' + 1)) := by rw [spaces_succ, ← List.append_assoc, Buf, bytesV_append]; exact hu3
            clear hu3 hg3 hat3 hne3 hu2 hbx
            go_wp2
            go_roundw
            case rel => first | exact ⟨j' + 1, by omega, by go_num, R1, R2⟩ | ((repeat apply Exists.intro); exact ⟨⟨j' + 1, by omega, by go_num, R1, R2⟩, rfl⟩)
            case measure => simp [intOf]; omega
          · obtain rfl : j' = 1 + gp := by omega
            have hc' : wr.cell? ⟨b, off + k, none⟩ = some (.string s) := (hbx.cell (p := ⟨b, off + k, none⟩) hbl).trans hc
            have hown : Own wr x1.heap.size 5 u11 (bytesV (wpre z0 G q k ++ spaces (1 + gp))) := hu2
            have hl2 : (bytesV (wpre z0 G q k ++ spaces (1 + gp))).length + s.size ≤ 65536 := by rw [bytesV_length, List.length_append, spaces_length]; omega
            go_wp2_with (at_builtin; go_must (refine wpList_append_str rfl (.tmp 63) (.tmp 67) 26 9 rfl x1.heap.size 5 i0 Ydjm.underlying26 Ydjm.underlying9 hi hz0 hz1 hz2 u11 _ rfl wr hown hBr s rfl (by omega) ?_); intro v2 w2 hu4 hg2 hn2)
            have R2 := Below.of_grown hbx hown hBr hg2
            have R1 : Buf w2 x1.heap.size v2 (wpre z0 G q (k + 1)) := by rw [unhide HF, Buf, bytesV_append]; exact hu4
            clear hu4 hbx hn2 hg2 hown hu2
            go_wp2
            go_roundw
            case rel => exact ⟨k + 1, by omega, by go_num, R1, R2⟩
            case measure => simp [intOf]; omega
    · obtain rfl : k = len0 := by omega
      have hbx := hb1.trans (hb.mono hb1.size)
      rw [← unhide HE] at hu
      have hcv := run_string_of_buf (P := Ydjm.prog) wr 26 9 Ydjm.underlying26 Ydjm.underlying5 Ydjm.underlying9 hu
      have he : (⟨r.data.toList.toArray⟩ : ByteArray) = r := by apply WideShapes.bytes_inj; rfl
      rw [he] at hcv
      clear hu hb he
      go_wp2
      go_ret
      exact ⟨ret_bool (by simp), hbx⟩
end Go.Proofs.Ymbrdj
