/-
  The J laws' own helpers.
-/
import Derived.Test.YmbrdlFillP
set_option linter.unusedSimpArgs false
set_option linter.unusedVariables false
namespace Go.Proofs.Ymbrdl
open Go.RowKit

theorem info5j : (Ydlm.prog.info? 5).map (fun i => (i.zero, i.size, i.bytes)) = some (some (.int .u8 0), 1, 1) := by kernel_rfl
theorem info9j : (Ydlm.prog.info? 9).map (fun i => (i.zero, i.size, i.bytes)) = some (some (.string ByteArray.empty), 1, 16) := by kernel_rfl

set_option maxHeartbeats 400000 in
theorem jspace_any (n : Int) (w : World) :
    Calls Ydlm.prog 35 #[.int .u8 n] w fun e w' => e = .returned (.bool (spB n)) ∧ w' = w := by
  by_cases h1 : n = 32
  · subst h1; go_enter Ydlm.func35, Ydlm.ntmps35; go_wp2; go_ret; exact ⟨rfl, rfl⟩
  by_cases h2 : n = 9
  · subst h2; go_enter Ydlm.func35, Ydlm.ntmps35; go_wp2; go_ret; exact ⟨rfl, rfl⟩
  by_cases h3 : n = 10
  · subst h3; go_enter Ydlm.func35, Ydlm.ntmps35; go_wp2; go_ret; exact ⟨rfl, rfl⟩
  by_cases h4 : n = 13
  · subst h4; go_enter Ydlm.func35, Ydlm.ntmps35; go_wp2; go_ret; exact ⟨rfl, rfl⟩
  have e1 : (n == 32) = false := by simpa using h1
  have e2 : (n == 9) = false := by simpa using h2
  have e3 : (n == 10) = false := by simpa using h3
  have e4 : (n == 13) = false := by simpa using h4
  have HE := hide (show false = spB n by simp [spB, e1, e2, e3, e4])
  clear h1 h2 h3 h4
  go_enter Ydlm.func35, Ydlm.ntmps35
  go_wp2
  go_ret
  exact ⟨ret_bool (unhide HE), rfl⟩

/-- m is the length of the longest of ws. -/
structure LongF (ws : List (List UInt8)) (m : Nat) : Prop where
  le : ∀ l ∈ ws, l.length ≤ m
  zero : m = 0 → ws = []
  hit : 0 < m → ∃ l ∈ ws, l.length = m

/-- The state of jlongest's loop. -/
structure JLSt (T : List (List UInt8)) (rest cur : List UInt8) (done : List (List UInt8)) (best : Nat) : Prop where
  eq : T = done ++ fieldsGo cur rest
  pos : ∀ l ∈ done, 0 < l.length
  le : ∀ l ∈ done, l.length ≤ best
  run : cur.length ≤ best
  hit : best = cur.length ∨ ∃ l ∈ done, l.length = best

theorem JLSt.start (t : List UInt8) : JLSt (fieldsGo [] t) t [] [] 0 := ⟨rfl, by simp, by simp, Nat.le_refl _, .inl rfl⟩
theorem JLSt.sp {T : List (List UInt8)} {rest cur : List UInt8} {done : List (List UInt8)} {best : Nat} {c : UInt8} (h : JLSt T (c :: rest) cur done best) (hc : isSp c = true) : ∃ done', JLSt T rest [] done' best := by
  by_cases h0 : cur = []
  · subst h0
    refine ⟨done, by rw [h.eq, fieldsGo_sp _ _ _ hc, if_pos rfl], h.pos, h.le, Nat.zero_le _, h.hit⟩
  · refine ⟨done ++ [cur], by rw [h.eq, fieldsGo_sp _ _ _ hc, if_neg h0]; simp, ?_, ?_, Nat.zero_le _, .inr ?_⟩
    · intro l hl
      rcases List.mem_append.1 hl with hl | hl
      · exact h.pos l hl
      · rw [List.mem_singleton.1 hl]; exact List.length_pos_iff.2 h0
    · intro l hl
      rcases List.mem_append.1 hl with hl | hl
      · exact h.le l hl
      · rw [List.mem_singleton.1 hl]; exact h.run
    · rcases h.hit with hh | ⟨l, hl, hh⟩
      · exact ⟨cur, by simp, hh.symm⟩
      · exact ⟨l, by simp [hl], hh⟩
theorem JLSt.up {T : List (List UInt8)} {rest cur : List UInt8} {done : List (List UInt8)} {best : Nat} {c : UInt8} (h : JLSt T (c :: rest) cur done best) (hc : isSp c = false) (hb : best < cur.length + 1) : JLSt T rest (cur ++ [c]) done (cur.length + 1) :=
  ⟨by rw [h.eq, fieldsGo_other _ _ _ hc], h.pos, fun l hl => by have := h.le l hl; omega, by simp, .inl (by simp)⟩
theorem JLSt.keep {T : List (List UInt8)} {rest cur : List UInt8} {done : List (List UInt8)} {best : Nat} {c : UInt8} (h : JLSt T (c :: rest) cur done best) (hc : isSp c = false) (hb : ¬ best < cur.length + 1) : JLSt T rest (cur ++ [c]) done best :=
  ⟨by rw [h.eq, fieldsGo_other _ _ _ hc], h.pos, h.le, by simp; omega, by
    rcases h.hit with hh | hh
    · have := h.run; omega
    · exact .inr hh⟩
theorem JLSt.fin {T : List (List UInt8)} {cur : List UInt8} {done : List (List UInt8)} {best : Nat} (h : JLSt T [] cur done best) : LongF T best := by
  have he := h.eq
  rw [fieldsGo_end] at he
  by_cases h0 : cur = []
  · rw [if_pos h0, List.append_nil] at he
    subst he h0
    refine ⟨h.le, fun hb => ?_, fun hb => ?_⟩
    · cases T with
      | nil => rfl
      | cons l R =>
        have h1 := h.pos l (by simp)
        have h2 := h.le l (by simp)
        omega
    · rcases h.hit with hh | hh
      · simp at hh; omega
      · exact hh
  · rw [if_neg h0] at he
    subst he
    refine ⟨fun l hl => ?_, fun hb => ?_, fun hb => ?_⟩
    · rcases List.mem_append.1 hl with hl | hl
      · exact h.le l hl
      · rw [List.mem_singleton.1 hl]; exact h.run
    · have h1 := h.run
      have h2 := List.length_pos_iff.2 h0
      omega
    · rcases h.hit with hh | ⟨l, hl, hh⟩
      · exact ⟨cur, by simp, hh.symm⟩
      · exact ⟨l, by simp [hl], hh⟩

set_option maxHeartbeats 1600000 in
theorem jlongest_any (s : ByteArray) (w : World) (hs : s.size ≤ 1073741824) :
    Calls Ydlm.prog 21 #[.string s] w fun e w' => (∃ m : Nat, e = .returned (.int .i64 m) ∧ m ≤ s.size ∧ Hid (LongF (fieldsGo [] s.data.toList) m)) ∧ w' = w := by
  go_enter Ydlm.func21, Ydlm.ntmps21
  go_wp2
  go_loop [3, 4, 5] (fun bs rn i => ∃ (B R I : Nat) (cur : List UInt8) (done : List (List UInt8)), bs = .int .i64 B ∧ rn = .int .i64 R ∧ i = .int .i64 I ∧ B ≤ I ∧ R ≤ I ∧ I ≤ s.size ∧ Hid (R = cur.length) ∧ Hid (JLSt (fieldsGo [] s.data.toList) (s.data.toList.drop I) cur done B)) (fun _ _ i => s.size - (intOf i).toNat)
  case atStart => exact ⟨0, 0, 0, [], [], rfl, rfl, rfl, Nat.le_refl _, Nat.le_refl _, Nat.zero_le _, rfl, JLSt.start _⟩
  case round =>
    obtain ⟨B, R, I, cur, done, rfl, rfl, rfl, hB, hR, hI, HR, HST⟩ := hrel
    by_cases hlt : I < s.size
    · have hST := unhide HST
      rw [drop_cons s I hlt] at hST
      cases hsp : spB (s[I].toNat : Int)
      · by_cases hup : B < R + 1
        · have H2 := hide (hST.up hsp (by rw [← unhide HR]; exact hup))
          have H3 : Hid (R + 1 = (cur ++ [s[I]]).length) := by show _ = _; rw [unhide HR]; simp
          rw [← unhide HR] at H2
          clear hST HST HR
          go_wp2_with (go_at_call 35; refine (jspace_any _ _).mono ?_; rintro e w' ⟨rfl, hw⟩; obtain rfl := hw.symm)
          go_round
          case rel => exact ⟨R + 1, R + 1, I + 1, _, _, by go_num, by go_num, by go_num, by omega, by omega, by omega, H3, H2⟩
          case measure => simp [intOf]; omega
        · have H2 := hide (hST.keep hsp (by rw [← unhide HR]; exact hup))
          have H3 : Hid (R + 1 = (cur ++ [s[I]]).length) := by show _ = _; rw [unhide HR]; simp
          clear hST HST HR
          go_wp2_with (go_at_call 35; refine (jspace_any _ _).mono ?_; rintro e w' ⟨rfl, hw⟩; obtain rfl := hw.symm)
          go_round
          case rel => exact ⟨B, R + 1, I + 1, _, _, by go_num, by go_num, by go_num, by omega, by omega, by omega, H3, H2⟩
          case measure => simp [intOf]; omega
      · obtain ⟨done', h2⟩ := hST.sp hsp
        have H2 := hide h2
        clear hST HST HR h2
        go_wp2_with (go_at_call 35; refine (jspace_any _ _).mono ?_; rintro e w' ⟨rfl, hw⟩; obtain rfl := hw.symm)
        go_round
        case rel => exact ⟨B, 0, I + 1, [], done', rfl, by go_num, by go_num, by omega, by omega, by omega, rfl, H2⟩
        case measure => simp [intOf]; omega
    · have hST := unhide HST
      rw [List.drop_of_length_le (by simp; omega)] at hST
      have H2 := hide hST.fin
      clear hST HST HR
      go_wp2
      go_ret
      exact ⟨⟨B, rfl, by omega, H2⟩, rfl⟩
end Go.Proofs.Ymbrdl
