import Derived.Test.YmbrdkGLaws
import Derived.Test.YmbrdkGConcat
set_option linter.unusedSimpArgs false
set_option linter.unusedVariables false
namespace Go.Proofs.Ymbrdk
open Go.RowKit

def cln (c : UInt8) : UInt8 := if c.toNat = 10 then 110 else c
theorem cln_ne (c : UInt8) : (cln c).toNat ≠ 10 := by
  unfold cln; split
  · decide
  · assumption

theorem split_line (X : List UInt8) : ∀ (s cur : List UInt8), (∀ d ∈ s, d.toNat ≠ 10) → splitGo cur (s ++ 10 :: X) = (cur ++ s) :: splitGo [] X
  | [], cur, _ => by
    have h10 : (10 : UInt8).toNat = 10 := rfl
    rw [List.nil_append, splitGo_nl _ _ _ h10, List.append_nil]
  | c :: s, cur, h => by
    rw [List.cons_append, splitGo_other _ _ _ (h c (by simp)), split_line X s _ (fun d hd => h d (by simp [hd]))]
    simp
theorem split_last : ∀ (s cur : List UInt8), (∀ d ∈ s, d.toNat ≠ 10) → splitGo cur s = if cur ++ s = [] then [] else [cur ++ s]
  | [], cur, _ => by rw [splitGo_end, List.append_nil]
  | c :: s, cur, h => by
    rw [splitGo_other _ _ _ (h c (by simp)), split_last s _ (fun d hd => h d (by simp [hd]))]
    simp

/-- No line feed in any of them. -/
def NoNl (cs : List ByteArray) : Prop := ∀ s ∈ cs, ∀ d ∈ s.data.toList, d.toNat ≠ 10

theorem split_pre {cs : List ByteArray} {ended : Bool} (hn : NoNl cs) (X : List UInt8) : ∀ k, k ≤ cs.length → (ended = true ∨ k < cs.length) → splitGo [] (gtPre cs ended k ++ X) = texts (cs.take k) ++ splitGo [] X
  | 0, _, _ => by simp [gtPre, texts]
  | k + 1, hk, he => by
    obtain ⟨s, hs⟩ : ∃ s, cs[k]? = some s := ⟨cs[k]'(by omega), List.getElem?_eq_getElem _⟩
    have hc : (ended || decide (k + 1 < cs.length)) = true := by
      rcases he with h | h <;> simp [h]
    rw [gtPre_succ hs, hc, if_pos rfl, List.append_assoc, List.append_assoc, split_pre hn _ k (by omega) (by omega)]
    have e : [10] ++ X = 10 :: X := rfl
    rw [e, split_line X _ _ (hn s (List.mem_of_getElem? hs)), List.take_add_one, hs, texts_append]
    simp [texts]

theorem split_ended {cs : List ByteArray} (hn : NoNl cs) : splitGo [] (gtPre cs true cs.length) = texts cs := by
  have h := split_pre (ended := true) hn [] cs.length (Nat.le_refl _) (.inl rfl)
  rw [List.append_nil, List.take_length] at h
  rw [h, splitGo_end, if_pos rfl, List.append_nil]
theorem split_open {cs : List ByteArray} (hn : NoNl cs) {n : Nat} {s : ByteArray} (hl : cs.length = n + 1) (hs : cs[n]? = some s) : splitGo [] (gtPre cs false (n + 1)) = texts (cs.take n) ++ (if s.data.toList = [] then [] else [s.data.toList]) := by
  have hc : (false || decide (n + 1 < cs.length)) = false := by simp; omega
  rw [gtPre_succ hs, hc, if_neg (by simp), List.append_nil, split_pre (ended := false) hn _ n (by omega) (.inr (by omega)), split_last _ _ (hn s (List.mem_of_getElem? hs)), List.nil_append]

def cleaned (ss : List ByteArray) : List (List UInt8) := ss.map fun s => s.data.toList.map cln
theorem szs_texts (cs : List ByteArray) : szs cs = ((texts cs).map List.length).sum := by
  induction cs with
  | nil => rfl
  | cons s t ih =>
    have e2 : szs (s :: t) = s.size + szs t := by simp [szs]
    rw [e2, ih]; simp [texts]
theorem szs_cleaned {ss cs : List ByteArray} (h : texts cs = cleaned ss) : szs cs = szs ss := by
  rw [szs_texts, h]
  unfold cleaned szs
  rw [List.map_map]
  congr 1
  apply List.map_congr_left
  intro s _
  simp
theorem nonl_cleaned {ss cs : List ByteArray} (h : texts cs = cleaned ss) : NoNl cs := by
  intro s hs d hd
  have h1 : s.data.toList ∈ texts cs := List.mem_map.2 ⟨s, hs, rfl⟩
  rw [h] at h1
  obtain ⟨s', _, he⟩ := List.mem_map.1 h1
  rw [← he] at hd
  obtain ⟨c, _, rfl⟩ := List.mem_map.1 hd
  exact cln_ne c
theorem len_cleaned {ss cs : List ByteArray} (h : texts cs = cleaned ss) : cs.length = ss.length := by
  have := congrArg List.length h
  rw [texts_length] at this
  rw [this]; simp [cleaned]
theorem cleaned_succ {ss cs : List ByteArray} {k : Nat} {s r : ByteArray} (h : texts cs = cleaned (ss.take k)) (hs : ss[k]? = some s) (hr : r.data.toList = s.data.toList.map cln) : texts (cs ++ [r]) = cleaned (ss.take (k + 1)) := by
  rw [texts_append, h, List.take_add_one, hs]
  simp [cleaned, texts, hr]

set_option maxHeartbeats 6000000 in
theorem gRoundTrip_walk (a0 : Option Addr) (len0 cap0 : Nat) (z0 : List ByteArray) (a1 : Bool) (w : World) (w0 : Strs w a0 len0 cap0 z0) :
    Calls Ydkm.prog 10 #[.slice a0 len0 cap0, .bool a1] w fun e w' => e = .returned (.bool true) ∧ Below w.heap.size w w' := by
  obtain ⟨i9, hi9, hz90, hz91, hz92⟩ := info_parts info9s
  obtain ⟨i5, hi5, hz50, hz51, hz52⟩ := info_parts info5g
  have hle0 := w0.le
  have hmx0 := w0.max
  unfold maxLen at hmx0
  have hl := hide w0.hlen
  go_enter Ydkm.func10, Ydkm.ntmps10
  go_wp2_with fail
  refine (gbig_any _ _ _ z0 _ w0).mono ?_
  rintro e w' ⟨hx, hw⟩
  obtain rfl := hw.symm
  rcases hx with ⟨hn, rfl⟩ | ⟨hsm, rfl⟩
  · go_wp2
    go_ret
    exact ⟨rfl, Below.refl _ _⟩
  obtain ⟨hs1, hs2⟩ := hsm
  have hs3 : len0 ≤ 1024 := by have := unhide hl; omega
  go_wp2
  go_loopw [5, 6] (fun v i wr => ∃ (k : Nat) (cs : List ByteArray), k ≤ len0 ∧ i = .int .i64 k ∧ Own wr w.heap.size 9 v (cs.map Value.string) ∧ Hid (texts cs = cleaned (z0.take k)) ∧ cs.length ≤ 1024 ∧ Below w.heap.size w wr) (fun _ i _ => len0 - (intOf i).toNat)
  case atStart => exact ⟨0, [], Nat.zero_le _, rfl, Own.nil _ _ _, by simp [Hid, texts, cleaned], by simp, Below.refl _ _⟩
  case round =>
    obtain ⟨k, cs, hk, rfl, hown, HC, hcl, hbr⟩ := hrel
    by_cases hlt : k < len0
    · obtain ⟨b, off, s, rfl, hss, -, hbl, hc⟩ := w0.nth k hlt
      have hsz : s.size ≤ 65536 := by
        have h1 := szs_take_succ hss
        have h2 := szs_take_le z0 (k + 1)
        omega
      have HS := hide hss
      clear hss
      have hcl2 : (cs.map Value.string).length < 1024 := by
        have h1 := len_cleaned (unhide HC)
        rw [List.length_map, h1, List.length_take]
        have := unhide hl
        omega
      go_wp2
      go_loopw [7, 8] (fun v j wr => ∃ (j' : Nat), j' ≤ s.size ∧ j = .int .i64 j' ∧ Buf wr w.heap.size v ((s.data.toList.take j').map cln) ∧ Own wr w.heap.size 9 u5 (cs.map Value.string) ∧ Below w.heap.size w wr) (fun _ j _ => s.size - (intOf j).toNat)
      case atStart => exact ⟨0, Nat.zero_le _, rfl, Buf.nil _ _, hown, hbr⟩
      case round =>
        obtain ⟨j', hj', rfl, hu, hown2, hbx⟩ := hrel
        have hc' : wr.cell? ⟨b, off + k, none⟩ = some (.string s) := (hbx.cell (p := ⟨b, off + k, none⟩) hbl).trans hc
        have hBr := hbx.size
        by_cases hlt2 : j' < s.size
        · have hl1 : (bytesV ((s.data.toList.take j').map cln)).length ≤ 65536 := by rw [bytesV_length, List.length_map, List.length_take]; omega
          have HT := hide (take_snoc s j' hlt2)
          by_cases hc10 : s[j'].toNat = 10
          · have HC10 := hide hc10
            have hc1 : (s[j'].toNat : Int) ≤ 10 := by omega
            have hc2 : (10 : Int) ≤ s[j'].toNat := by omega
            clear hc10
            go_wp2_with (at_builtin; go_must (refine wpList_append1 rfl _ _ 41 rfl w.heap.size 5 i5 (.int .u8 0) 1 Ydkm.underlying41 hi5 hz50 hz51 hz52 rfl u7 _ rfl wr (.int .u8 110) rfl hu hBr rfl (by omega) (by unfold maxLen; omega) ?_); intro v3 w3 hu3 hg3 hat3 hne3)
            have R1 : Buf w3 w.heap.size v3 ((s.data.toList.take (j' + 1)).map cln) := by
              rw [unhide HT, List.map_append, Buf, bytesV_append]
              have e : bytesV (List.map cln [s[j']]) = [.int .u8 110] := by simp [bytesV, cln, unhide HC10]
              rw [e]; exact hu3
            have R2 := Below.of_grown hbx hu hBr hg3
            have R3 := Own.grown hown2 hg3 (Own.apart hown2 hu (by decide))
            clear hu3 hg3 hat3 hne3 hu hbx hown2 hl1
            go_wp2
            go_roundw
            case rel => exact ⟨j' + 1, by omega, by go_num, R1, R3, R2⟩
            case measure => simp [intOf]; omega
          · have HC10 := hide hc10
            have hne : ((s[j'].toNat : Int) == 10) = false := by simp; omega
            clear hc10
            go_wp2_with (at_builtin; go_must (refine wpList_append1 rfl _ _ 41 rfl w.heap.size 5 i5 (.int .u8 0) 1 Ydkm.underlying41 hi5 hz50 hz51 hz52 rfl u7 _ rfl wr (.int .u8 s[j'].toNat) rfl hu hBr rfl (by omega) (by unfold maxLen; omega) ?_); intro v3 w3 hu3 hg3 hat3 hne3)
            have R1 : Buf w3 w.heap.size v3 ((s.data.toList.take (j' + 1)).map cln) := by
              rw [unhide HT, List.map_append, Buf, bytesV_append]
              have e : bytesV (List.map cln [s[j']]) = [.int .u8 s[j'].toNat] := by simp [bytesV, cln, unhide HC10]
              rw [e]; exact hu3
            have R2 := Below.of_grown hbx hu hBr hg3
            have R3 := Own.grown hown2 hg3 (Own.apart hown2 hu (by decide))
            clear hu3 hg3 hat3 hne3 hu hbx hown2 hl1
            go_wp2
            go_roundw
            case rel => exact ⟨j' + 1, by omega, by go_num, R1, R3, R2⟩
            case measure => simp [intOf]; omega
        · rw [List.take_of_length_le (by simp; omega)] at hu
          obtain ⟨r, hr⟩ : ∃ r : ByteArray, r = ⟨(s.data.toList.map cln).toArray⟩ := ⟨_, rfl⟩
          have HR : Hid (r.data.toList = s.data.toList.map cln) := by show _ = _; rw [hr]
          have hcv := run_string_of_buf (P := Ydkm.prog) wr 41 9 Ydkm.underlying41 Ydkm.underlying5 Ydkm.underlying9 hu
          rw [← hr] at hcv
          clear hu hr
          go_wp2_with (at_builtin; go_must (refine wpList_append1 rfl _ _ 22 rfl w.heap.size 9 i9 (.string ByteArray.empty) 16 Ydkm.underlying22 hi9 hz90 hz91 hz92 rfl u5 (cs.map Value.string) rfl wr (.string r) rfl hown2 hBr rfl (by omega) (by unfold maxLen; omega) ?_); intro v3 w3 hu3 hg3 hat3 hne3)
          have R1 : Own w3 w.heap.size 9 v3 ((cs ++ [r]).map Value.string) := by rw [List.map_append]; exact hu3
          have R2 := Below.of_grown hbx hown2 hBr hg3
          have R3 := hide (cleaned_succ (unhide HC) (unhide HS) (unhide HR))
          rw [List.length_map] at hcl2
          clear hu3 hg3 hat3 hne3 hown2 hbx hcv
          go_wp2
          go_roundw
          case rel => exact ⟨k + 1, _, by omega, by go_num, R1, R3, by simp; omega, R2⟩
          case measure => simp [intOf]; omega
    · have hC := unhide HC
      rw [List.take_of_length_le (by have := unhide hl; omega)] at hC
      have hsc := szs_cleaned hC
      have hnl := nonl_cleaned hC
      have hsl : ∀ s ∈ cs, s.size ≤ 65536 := fun s hs => by
        obtain ⟨j, hj, rfl⟩ := List.getElem_of_mem hs
        have h1 := szs_take_succ (List.getElem?_eq_getElem hj)
        have h2 := szs_take_le cs (j + 1)
        omega
      obtain ⟨a3, cap3, rfl, hS3, -⟩ := Own.strs hown (fun s h => Nat.le_trans (hsl s h) (by unfold maxLen; omega))
      have HNL := hide hnl
      clear hC HC hown hnl
      generalize hn : cs.length = n at *
      have HN := hide hn
      clear hn
      have hS3m := hS3.max
      have hS3l := hS3.le
      unfold maxLen at hS3m
      generalize wr = X at *
      go_wp2_with fail
      refine (gtext_any _ _ _ cs _ _ hS3 (by omega)).mono ?_
      rintro e x1 ⟨r, rfl, HR, hb1⟩
      have hrz : r.size ≤ 66560 := by
        have h1 := congrArg List.length (unhide HR)
        have h2 := gtPre_length cs a1 n
        have h3 := szs_take_le cs n
        have h4 : r.data.toList.length = r.size := by simp
        omega
      go_wp2_with fail
      refine (splitLines_any _ _ (by omega)).mono ?_
      rintro e x2 ⟨v2, ps, rfl, ho2, HT2, hpl, hz2, hb2, -⟩
      have hSw := hS3.below (hb1.trans (hb2.mono hb1.size))
      have hbel := hide ((hbr.trans (hb1.mono hbr.size)).trans (hb2.mono (Nat.le_trans hbr.size hb1.size)))
      have HZ2 := hide hz2
      clear hS3 hbr hb1 hb2 hz2
      have hmain : ∃ m, ps = cs.take m ∧ ((a1 = true ∧ m = n) ∨ (a1 = false ∧ n = 0 ∧ m = 0) ∨ (a1 = false ∧ n = m + 1 ∧ ∃ s, cs[m]? = some s ∧ s.data.toList = []) ∨ (a1 = false ∧ ∃ n', n = n' + 1 ∧ m = n ∧ ∃ s, cs[n']? = some s ∧ s.data.toList ≠ [])) := by
        have hT := unhide HT2
        rw [unhide HR] at hT
        have hcl' := unhide HN
        cases a1
        · rcases Nat.eq_zero_or_pos n with h0 | h0
          · subst h0
            refine ⟨0, ?_, .inr (.inl ⟨rfl, rfl, rfl⟩)⟩
            apply texts_inj
            rw [hT]; simp [gtPre, splitGo, texts]
          · obtain ⟨n', rfl⟩ : ∃ n', n = n' + 1 := ⟨n - 1, by omega⟩
            obtain ⟨s, hs⟩ : ∃ s, cs[n']? = some s := ⟨cs[n']'(by omega), List.getElem?_eq_getElem _⟩
            rw [split_open (unhide HNL) hcl' hs] at hT
            by_cases hse : s.data.toList = []
            · refine ⟨n', texts_inj ?_, .inr (.inr (.inl ⟨rfl, rfl, s, hs, hse⟩))⟩
              rw [hT, if_pos hse, List.append_nil]
            · refine ⟨n' + 1, texts_inj ?_, .inr (.inr (.inr ⟨rfl, n', rfl, rfl, s, hs, hse⟩))⟩
              rw [hT, if_neg hse, List.take_add_one, hs, texts_append]; simp [texts]
        · refine ⟨n, texts_inj ?_, .inl ⟨rfl, rfl⟩⟩
          rw [hT, ← hcl', split_ended (unhide HNL), List.take_length]
      obtain ⟨m, hps, hm⟩ := hmain
      have hmn : m ≤ n := by rcases hm with ⟨_, h⟩ | ⟨_, h1, h2⟩ | ⟨_, h, _⟩ | ⟨_, n', _, h, _⟩ <;> omega
      obtain ⟨b3, c3, rfl, hSg, -⟩ := Own.strs ho2 (fun s h => by have := unhide HZ2 s h; unfold maxLen; omega)
      subst hps
      have hlm : (cs.take m).length = m := by rw [List.length_take]; have := unhide HN; omega
      rw [hlm] at hSg ⊢
      clear ho2 HZ2 HT2 HR hpl hlm
      have hnem : ((m : Int) != (m : Int)) = false := by simp
      rcases hm with ⟨ha, h⟩ | ⟨ha, h1, h2⟩ | ⟨ha, h, s, hs, hse⟩ | ⟨ha, n', hn', h, s, hs, hse⟩
      · subst ha
        obtain rfl := h
        go_wp2
        go_loopw [12] (fun i wr => ∃ q : Nat, q ≤ m ∧ i = .int .i64 q ∧ Below x2.heap.size x2 wr) (fun i _ => m - (intOf i).toNat)
        case atStart => exact ⟨0, Nat.zero_le _, rfl, Below.refl _ _⟩
        case round =>
          obtain ⟨q, hq, rfl, hbr⟩ := hrel
          by_cases hlt : q < m
          · obtain ⟨b4, off4, s4, rfl, hs4, -, hbl4, hc4⟩ := (hSg.below hbr).nth q hlt
            obtain ⟨b5, off5, s5, ha5, hs5, -, hbl5, hc5⟩ := (hSw.below hbr).nth q (by omega)
            first | subst ha5 | (simp at ha5; obtain ⟨rfl, rfl⟩ := ha5)
            obtain rfl : s5 = s4 := by
              rw [List.getElem?_take, if_pos hlt] at hs4
              rw [hs4] at hs5; exact (Option.some.inj hs5).symm
            clear hs4 hs5
            go_wp2_with fail
            go_quiet (fail)
            go_wp2
            go_roundw
            case rel => exact ⟨q + 1, by omega, by go_num, below_drewN hbr _⟩
            case measure => simp [intOf]; omega
          · have HB := hide ((unhide hbel).trans (hbr.mono (unhide hbel).size))
            go_wp2
            go_ret
            exact ⟨rfl, unhide HB⟩
      · subst ha
        obtain rfl : m = n := by omega
        have hd0 : decide ((0 : Int) < (m : Int)) = false := by simp; omega
        have hd1 : decide (0 < m) = false := by simp; omega
        have hd2 : m < 1 := by omega
        have H2 := hide h2
        clear h1 h2
        go_wp2
        go_loopw [12] (fun i wr => ∃ q : Nat, q ≤ m ∧ i = .int .i64 q ∧ Below x2.heap.size x2 wr) (fun i _ => m - (intOf i).toNat)
        case atStart => exact ⟨0, Nat.zero_le _, rfl, Below.refl _ _⟩
        case round =>
          obtain ⟨q, hq, rfl, hbr⟩ := hrel
          by_cases hlt : q < m
          · obtain ⟨b4, off4, s4, rfl, hs4, -, hbl4, hc4⟩ := (hSg.below hbr).nth q hlt
            obtain ⟨b5, off5, s5, ha5, hs5, -, hbl5, hc5⟩ := (hSw.below hbr).nth q (by omega)
            first | subst ha5 | (simp at ha5; obtain ⟨rfl, rfl⟩ := ha5)
            obtain rfl : s5 = s4 := by
              rw [List.getElem?_take, if_pos hlt] at hs4
              rw [hs4] at hs5; exact (Option.some.inj hs5).symm
            clear hs4 hs5
            go_wp2_with fail
            go_quiet (fail)
            go_wp2
            go_roundw
            case rel => exact ⟨q + 1, by omega, by go_num, below_drewN hbr _⟩
            case measure => simp [intOf]; omega
          · have HB := hide ((unhide hbel).trans (hbr.mono (unhide hbel).size))
            go_wp2
            go_ret
            exact ⟨rfl, unhide HB⟩
      · subst ha
        subst h
        obtain ⟨b6, off6, s6, rfl, hs6, -, hbl6, hc6⟩ := hSw.nth m (by omega)
        obtain rfl : s6 = s := by rw [hs] at hs6; exact (Option.some.inj hs6).symm
        clear hs6 hs
        have he1 : s6.toList.isEmpty = true := by rw [ByteArray.toList_eq, hse]; rfl
        have he2 : s6.toList = [] := by rw [ByteArray.toList_eq, hse]
        clear hse
        go_wp2
        go_loopw [12] (fun i wr => ∃ q : Nat, q ≤ m ∧ i = .int .i64 q ∧ Below x2.heap.size x2 wr) (fun i _ => m - (intOf i).toNat)
        case atStart => exact ⟨0, Nat.zero_le _, rfl, Below.refl _ _⟩
        case round =>
          obtain ⟨q, hq, rfl, hbr⟩ := hrel
          by_cases hlt : q < m
          · obtain ⟨b4, off4, s4, rfl, hs4, -, hbl4, hc4⟩ := (hSg.below hbr).nth q hlt
            obtain ⟨b5, off5, s5, ha5, hs5, -, hbl5, hc5⟩ := (hSw.below hbr).nth q (by omega)
            first | subst ha5 | (simp at ha5; obtain ⟨rfl, rfl⟩ := ha5)
            obtain rfl : s5 = s4 := by
              rw [List.getElem?_take, if_pos hlt] at hs4
              rw [hs4] at hs5; exact (Option.some.inj hs5).symm
            clear hs4 hs5
            go_wp2_with fail
            go_quiet (fail)
            go_wp2
            go_roundw
            case rel => exact ⟨q + 1, by omega, by go_num, below_drewN hbr _⟩
            case measure => simp [intOf]; omega
          · have HB := hide ((unhide hbel).trans (hbr.mono (unhide hbel).size))
            go_wp2
            go_ret
            exact ⟨rfl, unhide HB⟩
      · subst ha
        obtain rfl := h
        subst hn'
        obtain ⟨b6, off6, s6, rfl, hs6, -, hbl6, hc6⟩ := hSw.nth n' (by omega)
        obtain rfl : s6 = s := by rw [hs] at hs6; exact (Option.some.inj hs6).symm
        clear hs6 hs
        have he0 : ¬ s6.toList = [] := by rw [ByteArray.toList_eq]; exact hse
        have he1 : s6.toList.isEmpty = false := by cases h : s6.toList <;> simp_all
        clear hse
        generalize hm : n' + 1 = m at *
        have hn2 : (m : Int) - 1 = (n' : Int) := by omega
        have HM := hide hm
        clear hm
        go_wp2
        go_loopw [12] (fun i wr => ∃ q : Nat, q ≤ m ∧ i = .int .i64 q ∧ Below x2.heap.size x2 wr) (fun i _ => m - (intOf i).toNat)
        case atStart => exact ⟨0, Nat.zero_le _, rfl, Below.refl _ _⟩
        case round =>
          obtain ⟨q, hq, rfl, hbr⟩ := hrel
          by_cases hlt : q < m
          · obtain ⟨b4, off4, s4, rfl, hs4, -, hbl4, hc4⟩ := (hSg.below hbr).nth q hlt
            obtain ⟨b5, off5, s5, ha5, hs5, -, hbl5, hc5⟩ := (hSw.below hbr).nth q (by omega)
            first | subst ha5 | (simp at ha5; obtain ⟨rfl, rfl⟩ := ha5)
            obtain rfl : s5 = s4 := by
              rw [List.getElem?_take, if_pos hlt] at hs4
              rw [hs4] at hs5; exact (Option.some.inj hs5).symm
            clear hs4 hs5
            go_wp2_with fail
            go_quiet (fail)
            go_wp2
            go_roundw
            case rel => exact ⟨q + 1, by omega, by go_num, below_drewN hbr _⟩
            case measure => simp [intOf]; omega
          · have HB := hide ((unhide hbel).trans (hbr.mono (unhide hbel).size))
            go_wp2
            go_ret
            exact ⟨rfl, unhide HB⟩
end Go.Proofs.Ymbrdk
