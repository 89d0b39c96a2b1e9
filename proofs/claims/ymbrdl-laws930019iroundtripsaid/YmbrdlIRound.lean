import Derived.Test.YmbrdlILaws
set_option linter.unusedSimpArgs false
set_option linter.unusedVariables false
namespace Go.Proofs.Ymbrdl
open Go.RowKit

theorem info9b : (Ydlm.prog.info? 9).map (fun i => (i.zero, i.size, i.bytes)) = some (some (.string ByteArray.empty), 1, 16) := by kernel_rfl

def cl (c : UInt8) : UInt8 := if c.toNat = 10 then 32 else c
theorem cl_ne (c : UInt8) : (cl c).toNat ≠ 10 := by
  unfold cl; split
  · decide
  · assumption

set_option maxHeartbeats 800000 in
theorem iclean_any (s : ByteArray) (w : World) (hs : s.size ≤ 1048576) :
    Calls Ydlm.prog 17 #[.string s] w fun e w' => ∃ r : ByteArray, e = .returned (.string r) ∧ Hid (r.data.toList = s.data.toList.map cl) ∧ Below w.heap.size w w' := by
  obtain ⟨i0, hi, hz0, hz1, hz2⟩ := info_parts info5b
  go_enter Ydlm.func17, Ydlm.ntmps17
  go_wp2
  go_loopw [3, 4] (fun v i wr => ∃ k : Nat, k ≤ s.size ∧ i = .int .i64 k ∧ Buf wr w.heap.size v ((s.data.toList.take k).map cl) ∧ Below w.heap.size w wr) (fun _ i _ => s.size - (intOf i).toNat)
  case atStart => exact ⟨0, Nat.zero_le _, rfl, Buf.nil _ _, Below.refl _ _⟩
  case round =>
    obtain ⟨k, hk, rfl, hu, hb⟩ := hrel
    by_cases hlt : k < s.size
    · have hl1 : (bytesV ((s.data.toList.take k).map cl)).length ≤ 1048576 := by rw [bytesV_length, List.length_map, List.length_take]; omega
      have HT := hide (take_snoc s k hlt)
      have hBr := hb.size
      by_cases hc : s[k].toNat = 10
      · have HC := hide hc
        have hc1 : (s[k].toNat : Int) ≤ 10 := by omega
        have hc2 : (10 : Int) ≤ s[k].toNat := by omega
        clear hc
        go_wp2_with (at_builtin; go_must (refine wpList_append1 rfl _ _ 28 rfl w.heap.size 5 i0 (.int .u8 0) 1 Ydlm.underlying28 hi hz0 hz1 hz2 rfl u3 _ rfl wr (.int .u8 32) rfl hu hBr rfl (by omega) (by unfold maxLen; omega) ?_); intro v3 w3 hu3 hg3 hat3 hne3)
        have R1 : Buf w3 w.heap.size v3 ((s.data.toList.take (k + 1)).map cl) := by
          rw [unhide HT, List.map_append, Buf, bytesV_append]
          have e : bytesV (List.map cl [s[k]]) = [.int .u8 32] := by simp [bytesV, cl, unhide HC]
          rw [e]; exact hu3
        have R2 := Below.of_grown hb hu hBr hg3
        clear hu3 hg3 hat3 hne3 hu hb
        go_wp2
        go_roundw
        case rel => exact ⟨k + 1, by omega, by go_num, R1, R2⟩
        case measure => simp [intOf]; omega
      · have HC := hide hc
        have hne : ((s[k].toNat : Int) == 10) = false := by simp; omega
        clear hc
        go_wp2_with (at_builtin; go_must (refine wpList_append1 rfl _ _ 28 rfl w.heap.size 5 i0 (.int .u8 0) 1 Ydlm.underlying28 hi hz0 hz1 hz2 rfl u3 _ rfl wr (.int .u8 s[k].toNat) rfl hu hBr rfl (by omega) (by unfold maxLen; omega) ?_); intro v3 w3 hu3 hg3 hat3 hne3)
        have R1 : Buf w3 w.heap.size v3 ((s.data.toList.take (k + 1)).map cl) := by
          rw [unhide HT, List.map_append, Buf, bytesV_append]
          have e : bytesV (List.map cl [s[k]]) = [.int .u8 s[k].toNat] := by simp [bytesV, cl, unhide HC]
          rw [e]; exact hu3
        have R2 := Below.of_grown hb hu hBr hg3
        clear hu3 hg3 hat3 hne3 hu hb
        go_wp2
        go_roundw
        case rel => exact ⟨k + 1, by omega, by go_num, R1, R2⟩
        case measure => simp [intOf]; omega
    · rw [List.take_of_length_le (by simp; omega)] at hu
      obtain ⟨LL, hLL⟩ : ∃ LL, LL = s.data.toList.map cl := ⟨_, rfl⟩
      rw [← hLL] at hu
      have HLL := hide hLL
      clear hLL
      have hcv := run_string_of_buf (P := Ydlm.prog) wr 28 9 Ydlm.underlying28 Ydlm.underlying5 Ydlm.underlying9 hu
      clear hu
      go_wp2
      go_ret
      exact ⟨_, rfl, unhide HLL, hb⟩

/-- The cleaned lines: as many, as long, no line feed. -/
structure Clean (ss cs : List ByteArray) : Prop where
  len : cs.length = ss.length
  small : ∀ s ∈ cs, s.size ≤ 1024
  ne : ∀ s ∈ cs, ∀ c ∈ s.data.toList, c.toNat ≠ 10

theorem Clean.push {ss cs : List ByteArray} {s r : ByteArray} {k : Nat} (h : Clean (ss.take k) cs) (hs : ss[k]? = some s) (hz : s.size ≤ 1024) (hr : r.data.toList = s.data.toList.map cl) : Clean (ss.take (k + 1)) (cs ++ [r]) := by
  have hk := lt_of_get hs
  have h1 := h.len
  rw [List.length_take] at h1
  refine ⟨by rw [List.length_append, h1, List.length_take]; simp; omega, fun x hx => ?_, fun x hx c hc => ?_⟩
  · rcases List.mem_append.1 hx with hx | hx
    · exact h.small x hx
    · simp at hx; subst hx
      have := congrArg List.length hr
      simp at this
      omega
  · rcases List.mem_append.1 hx with hx | hx
    · exact h.ne x hx c hc
    · simp at hx; subst hx
      rw [hr] at hc
      obtain ⟨d, _, rfl⟩ := List.mem_map.1 hc
      exact cl_ne d

theorem ext_eq {r s : ByteArray} {P : Nat} (h1 : P + s.size ≤ r.size) (h : ∀ j (hj : j < s.size) (hk : P + j < r.size), r[P + j] = s[j]) : r.extract P (P + s.size) = s := by
  apply ByteArray.ext
  rw [ByteArray.data_extract]
  apply Array.ext
  · simp; have : r.data.size = r.size := rfl
    have : s.data.size = s.size := rfl
    omega
  · intro i h2 h3
    rw [Array.getElem_extract]
    exact h i h3 (by have : s.data.size = s.size := rfl; omega)

set_option maxHeartbeats 3000000 in
theorem iRoundTrip_walk (a0 : Option Addr) (len0 cap0 : Nat) (z0 : List ByteArray) (w : World) (w0 : Strs w a0 len0 cap0 z0) :
    Calls Ydlm.prog 4 #[.slice a0 len0 cap0] w fun e w' => e = .returned (.bool true) ∧ Below w.heap.size w w' := by
  obtain ⟨i0, hi, hz0, hz1, hz2⟩ := info_parts info9b
  have hle := w0.le
  have hmx := w0.max
  have hl := hide w0.hlen
  unfold maxLen at hmx
  go_enter Ydlm.func4, Ydlm.ntmps4
  go_wp2_with fail
  refine (ibig_any _ _ _ z0 _ w0).mono ?_
  rintro e w' ⟨hx, hw⟩
  obtain rfl := hw.symm
  rcases hx with ⟨hn, rfl⟩ | ⟨hsm, rfl⟩
  · go_wp2
    go_ret
    exact ⟨rfl, Below.refl _ _⟩
  have hln := hsm.1
  have HSM := hide hsm
  clear hsm
  have hln' : len0 ≤ 1024 := by have := unhide hl; omega
  go_wp2
  go_loopw [3, 4] (fun v i wr => ∃ (k : Nat) (cs : List ByteArray), k ≤ len0 ∧ i = .int .i64 k ∧ Own wr w.heap.size 9 v (cs.map Value.string) ∧ Hid (Clean (z0.take k) cs) ∧ cs.length ≤ 1024 ∧ Below w.heap.size w wr) (fun _ i _ => len0 - (intOf i).toNat)
  case atStart => exact ⟨0, [], Nat.zero_le _, rfl, Own.nil _ _ _, ⟨by simp, by simp, by simp⟩, by simp, Below.refl _ _⟩
  case round =>
    obtain ⟨k, cs, hk, rfl, hown, HC, hcl, hbr⟩ := hrel
    by_cases hlt : k < len0
    · obtain ⟨b, off, s, rfl, hss, -, hbl, hc⟩ := (w0.below hbr).nth k hlt
      have hs1 : s.size ≤ 1024 := (unhide HSM).2 s (List.mem_of_getElem? hss)
      have HS := hide hss
      clear hss
      have hcl2 : (cs.map Value.string).length < 1024 := by
        have h1 := (unhide HC).len
        rw [List.length_map, h1, List.length_take]
        have := unhide hl
        omega
      go_wp2_with fail
      refine (iclean_any _ _ (by omega)).mono ?_
      rintro e w2 ⟨r, rfl, HR, hb2⟩
      have hown2 := hown.below hb2
      have hbw2 := hbr.trans (hb2.mono hbr.size)
      have hBr2 := hbw2.size
      clear hown hbr hb2
      go_wp2_with (at_builtin; go_must (refine wpList_append1 rfl _ _ 22 rfl w.heap.size 9 i0 (.string ByteArray.empty) 16 Ydlm.underlying22 hi hz0 hz1 hz2 rfl u3 (cs.map Value.string) rfl w2 (.string r) rfl hown2 hBr2 rfl (by omega) (by unfold maxLen; omega) ?_); intro v3 w3 hu3 hg3 hat3 hne3)
      have R1 : Own w3 w.heap.size 9 v3 ((cs ++ [r]).map Value.string) := by rw [List.map_append]; exact hu3
      have R2 := Below.of_grown hbw2 hown2 hBr2 hg3
      have R3 := hide ((unhide HC).push (unhide HS) hs1 (unhide HR))
      rw [List.length_map] at hcl2
      clear hu3 hg3 hat3 hne3 hown2 hbw2
      go_wp2
      go_roundw
      case rel => exact ⟨k + 1, _, by omega, by go_num, R1, R3, by simp; omega, R2⟩
      case measure => simp [intOf]; omega
    · have hC := unhide HC
      rw [List.take_of_length_le (by have := unhide hl; omega)] at hC
      obtain ⟨a3, cap3, rfl, hS3, -⟩ := Own.strs hown (fun s h => Nat.le_trans (hC.small s h) (by unfold maxLen; omega))
      have hsz : szs cs ≤ 1048576 := Nat.le_trans (szs_bound cs 1024 hC.small) (Nat.le_trans (Nat.mul_le_mul_right _ hcl) (by omega))
      have HC' := hide hC
      clear hC HC hown
      generalize hn : cs.length = n at *
      have HN := hide hn
      clear hn
      generalize wr = X at *
      go_wp2_with fail
      refine (joinLines_any _ _ _ cs _ hS3 (by omega)).mono ?_
      rintro e w1 ⟨r, rfl, HR, hb1⟩
      have hrs : r.size ≤ 1049600 := by
        have h1 := congrArg List.length (unhide HR)
        rw [linesL_length] at h1
        simp at h1
        have := unhide HN
        omega
      have hS4 := hS3.below hb1
      have hbw := hbr.trans (hb1.mono hbr.size)
      clear hS3 hbr hb1
      go_wp2
      go_loopw [6, 7, 8] (fun st kk i wr => ∃ (P K I : Nat), st = .int .i64 P ∧ kk = .int .i64 K ∧ i = .int .i64 I ∧ K ≤ n ∧ P ≤ I ∧ I ≤ r.size ∧ Hid (P = (linesL (cs.take K)).length) ∧ Hid (∀ s, cs[K]? = some s → I ≤ P + s.size) ∧ Below w1.heap.size w1 wr) (fun _ _ i _ => r.size - (intOf i).toNat)
      case atStart => exact ⟨0, 0, 0, rfl, rfl, rfl, Nat.zero_le _, Nat.zero_le _, Nat.zero_le _, rfl, fun _ _ => Nat.zero_le _, Below.refl _ _⟩
      case round =>
        obtain ⟨P, K, I, rfl, rfl, rfl, hKn, hPI, hIr, HP, HI, hbr⟩ := hrel
        by_cases hltI : I < r.size
        · have hKlt : K < n := by
            rcases Nat.lt_or_ge K n with h | h
            · exact h
            · exfalso
              have h1 := unhide HP
              rw [List.take_of_length_le (by have := unhide HN; omega), ← unhide HR] at h1
              simp at h1
              omega
          obtain ⟨b4, off4, s4, rfl, hs4, -, hbl4, hc4⟩ := (hS4.below hbr).nth K hKlt
          obtain ⟨hA, hB, hC⟩ := lines_at (unhide HR) hs4 (unhide HP)
          have hI4 := unhide HI s4 hs4
          by_cases hend : I < P + s4.size
          · have hb10 : Hid (r[I].toNat ≠ 10) := by
              obtain ⟨j, rfl⟩ : ∃ j, I = P + j := ⟨I - P, by omega⟩
              show _ ≠ _
              rw [hB j (by omega) hltI]
              exact (unhide HC').ne s4 (List.mem_of_getElem? hs4) _ (by
                have : s4[j] = s4.data.toList[j]'(by simp; omega) := rfl
                rw [this]; exact List.getElem_mem _)
            have hne : ((r[I].toNat : Int) != 10) = true := by have := unhide hb10; simp; omega
            have HS4 := hide hs4
            clear hs4 hB hC hA
            go_wp2
            go_roundw
            case rel => exact ⟨P, K, I + 1, rfl, rfl, by go_num, hKn, by omega, by omega, HP, fun s hs => by
              have h1 := unhide HS4
              rw [hs] at h1
              simp at h1
              subst h1
              omega, hbr⟩
            case measure => simp [intOf]; omega
          · obtain rfl : I = P + s4.size := by omega
            have hb10 := hC hltI
            have hne : ((r[P + s4.size].toNat : Int) != 10) = false := by rw [hb10]; rfl
            have hq := ext_eq (by omega) hB
            have HS4 := hide hs4
            have hb10' := hide hb10
            clear hs4 hB hC hb10
            generalize hI : P + s4.size = I at *
            have HII := hide hI
            clear hI
            have hd : decide ((n : Int) ≤ (K : Int)) = false := by simp; omega
            have hi1 : (0 : Int) ≤ (K : Int) := by omega
            have hi2 : (K : Int) < (n : Int) := by omega
            have hi3 : (0 : Int) ≤ (P : Int) := by omega
            have hi4 : (P : Int) ≤ (I : Int) := by omega
            have hi5 : (I : Int) ≤ (r.size : Int) := by omega
            go_wp2_with fail
            go_quiet (fail)
            go_wp2
            go_roundw
            case rel =>
              refine ⟨I + 1, K + 1, I + 1, by go_num, by go_num, by go_num, by omega, by omega, by omega, ?_, fun s hs => by omega, below_drewN hbr _⟩
              have h1 := unhide HP
              have h2 := unhide HII
              show _ = _
              rw [linesL_take_succ (unhide HS4), List.length_append, List.length_append, ← h1]; simp; omega
            case measure => simp [intOf]; omega
        · obtain rfl : I = r.size := by omega
          have hKn' : K = n := by
            rcases Nat.lt_or_ge K n with h | h
            · exfalso
              obtain ⟨b4, off4, s4, rfl, hs4, -, hbl4, hc4⟩ := (hS4.below hbr).nth K h
              obtain ⟨hA, -, -⟩ := lines_at (unhide HR) hs4 (unhide HP)
              have hI4 := unhide HI s4 hs4
              omega
            · omega
          have hPr : P = r.size := by
            have h1 := unhide HP
            rw [List.take_of_length_le (by have := unhide HN; omega), ← unhide HR] at h1
            simpa using h1
          have hq1 : ((K : Int) == (n : Int)) = true := by rw [hKn']; simp
          have HPR := hide hPr
          have HB := hide (hbw.trans (hbr.mono hbw.size))
          clear hKn' hPr
          go_wp2
          go_ret
          exact ⟨ret_bool (by rw [unhide HPR]; simp), unhide HB⟩
end Go.Proofs.Ymbrdl
