import Derived.Test.YmbrdkFields
set_option linter.unusedSimpArgs false
set_option linter.unusedVariables false
namespace Go.Proofs.Ymbrdk
open Go.RowKit

set_option maxHeartbeats 400000 in
theorem hspace_any (n : Int) (w : World) :
    Calls Ydkm.prog 26 #[.int .u8 n] w fun e w' => e = .returned (.bool (spB n)) ∧ w' = w := by
  by_cases h1 : n = 32
  · subst h1; go_enter Ydkm.func26, Ydkm.ntmps26; go_wp2; go_ret; exact ⟨rfl, rfl⟩
  by_cases h2 : n = 9
  · subst h2; go_enter Ydkm.func26, Ydkm.ntmps26; go_wp2; go_ret; exact ⟨rfl, rfl⟩
  by_cases h3 : n = 10
  · subst h3; go_enter Ydkm.func26, Ydkm.ntmps26; go_wp2; go_ret; exact ⟨rfl, rfl⟩
  by_cases h4 : n = 13
  · subst h4; go_enter Ydkm.func26, Ydkm.ntmps26; go_wp2; go_ret; exact ⟨rfl, rfl⟩
  have e1 : (n == 32) = false := by simpa using h1
  have e2 : (n == 9) = false := by simpa using h2
  have e3 : (n == 10) = false := by simpa using h3
  have e4 : (n == 13) = false := by simpa using h4
  have HE := hide (show false = spB n by simp [spB, e1, e2, e3, e4])
  clear h1 h2 h3 h4
  go_enter Ydkm.func26, Ydkm.ntmps26
  go_wp2
  go_ret
  exact ⟨ret_bool (unhide HE), rfl⟩

theorem fieldsGo_head : ∀ (t cur : List UInt8), cur ≠ [] → ∃ x rest, fieldsGo cur t = (cur ++ x) :: rest
  | [], cur, h => ⟨[], [], by rw [fieldsGo_end, if_neg h]; simp⟩
  | c :: t, cur, h => by
    cases hc : isSp c
    · rw [fieldsGo_other _ _ _ hc]
      obtain ⟨x, rest, he⟩ := fieldsGo_head t (cur ++ [c]) (by simp)
      exact ⟨c :: x, rest, by rw [he]; simp⟩
    · rw [fieldsGo_sp _ _ _ hc, if_neg h]
      exact ⟨[], fieldsGo [] t, by simp⟩

theorem drop_texts {ps : List ByteArray} {K : Nat} {y : List UInt8} {rest : List (List UInt8)} (h : (textsF ps).drop K = y :: rest) :
    K < ps.length ∧ (∃ q, ps[K]? = some q ∧ q.data.toList = y) ∧ (textsF ps).drop (K + 1) = rest := by
  have hl : K < (textsF ps).length := by
    rcases Nat.lt_or_ge K (textsF ps).length with h1 | h1
    · exact h1
    · rw [List.drop_of_length_le h1] at h; cases h
  rw [List.drop_eq_getElem_cons hl] at h
  injection h with h1 h2
  rw [textsF_length] at hl
  refine ⟨hl, ⟨ps[K], List.getElem?_eq_getElem hl, ?_⟩, h2⟩
  rw [← h1]; simp [textsF]

theorem byte_of_list {q : ByteArray} {cur x : List UInt8} {c : UInt8} (h : q.data.toList = cur ++ [c] ++ x) : cur.length < q.size ∧ ∀ (hk : cur.length < q.size), q[cur.length] = c := by
  have hl : q.size = cur.length + (1 + x.length) := by
    have := congrArg List.length h
    simp at this
    omega
  refine ⟨by omega, fun hk => ?_⟩
  have h1 : q.data.toList[cur.length]? = some c := by
    rw [h, List.getElem?_append_left (by simp), List.getElem?_append_right (by omega)]; simp
  rw [List.getElem?_eq_getElem (by simpa using hk)] at h1
  exact Option.some.inj h1

set_option maxHeartbeats 1600000 in
theorem hExact_walk (a0 : ByteArray) (w : World) (w0 : a0.size ≤ maxLen) :
    Calls Ydkm.prog 12 #[.string a0] w fun e w' => e = .returned (.bool true) ∧ Below w.heap.size w w' := by
  unfold maxLen at w0
  by_cases hb0 : 4096 < a0.size
  · go_enter Ydkm.func12, Ydkm.ntmps12
    go_wp2
    go_ret
    exact ⟨rfl, Below.refl _ _⟩
  go_enter Ydkm.func12, Ydkm.ntmps12
  go_wp2_with fail
  refine (fields_any _ _ (by omega)).mono ?_
  rintro e w1 ⟨v, ps, rfl, hown, HT, hpl, hz, hb1⟩
  obtain ⟨a3, cap3, rfl, hS, -⟩ := Own.strs hown (fun s h => by have := hz s h; unfold maxLen; omega)
  have hle := hS.le
  clear hown
  have HZ := hide hz
  clear hz
  generalize hn : ps.length = n at *
  have HN := hide hn
  clear hn
  go_wp2
  go_loop [4, 5, 6] (fun kk off i => ∃ (K O I : Nat) (cur : List UInt8), kk = .int .i64 K ∧ off = .int .i64 O ∧ i = .int .i64 I ∧ K ≤ n ∧ O ≤ I ∧ I ≤ a0.size ∧ Hid (cur.length = O) ∧ Hid ((textsF ps).drop K = fieldsGo cur (a0.data.toList.drop I))) (fun _ _ i => a0.size - (intOf i).toNat)
  case atStart => exact ⟨0, 0, 0, [], rfl, rfl, rfl, Nat.zero_le _, Nat.le_refl _, Nat.zero_le _, rfl, by have := unhide HT; simpa [Hid] using this⟩
  case round =>
    obtain ⟨K, O, I, cur, rfl, rfl, rfl, hKn, hOI, hIs, HC, HD⟩ := hrel
    by_cases hlt : I < a0.size
    · have hdc := drop_cons a0 I hlt
      cases hsp : spB (a0[I].toNat : Int)
      · have hD := unhide HD
        rw [hdc, fieldsGo_other _ _ _ hsp] at hD
        obtain ⟨x, rest, hx⟩ := fieldsGo_head (a0.data.toList.drop (I + 1)) (cur ++ [a0[I]]) (by simp)
        have hD2 := hD
        rw [hx] at hD2
        obtain ⟨hK, ⟨q, hq, hqd⟩, -⟩ := drop_texts hD2
        rw [unhide HN] at hK
        obtain ⟨hO, hqb⟩ := byte_of_list hqd
        rw [unhide HC] at hO
        have hqb' : ∀ (hk : O < q.size), q[O] = a0[I] := by have := unhide HC; subst this; exact hqb
        have hqe := hqb' hO
        obtain ⟨b4, off4, s4, rfl, hs4, -, hbl4, hc4⟩ := hS.nth K hK
        obtain rfl : s4 = q := by rw [hq] at hs4; exact (Option.some.inj hs4).symm
        have hqz : s4.size ≤ a0.size := unhide HZ s4 (List.mem_of_getElem? hq)
        have HD2 := hide hD
        clear hD hD2 hx hdc hqb hqb' hqd hq hs4 HD
        have hd1 : decide ((n : Int) ≤ (K : Int)) = false := by simp; omega
        have hd2 : decide ((s4.size : Int) ≤ (O : Int)) = false := by simp; omega
        go_wp2_with (go_at_call 26; refine (hspace_any _ _).mono ?_; rintro e w' ⟨rfl, hw⟩; obtain rfl := hw.symm)
        go_round
        case rel => exact ⟨K, O + 1, I + 1, cur ++ [a0[I]], rfl, by go_num, by go_num, hKn, by omega, by omega, by have := unhide HC; show _ = _; simp [this], HD2⟩
        case measure => simp [intOf]; omega
      · have hD := unhide HD
        rw [hdc, fieldsGo_sp _ _ _ hsp] at hD
        by_cases hO0 : 0 < O
        · rw [if_neg (by intro h; have := unhide HC; rw [h] at this; simp at this; omega)] at hD
          obtain ⟨hK, ⟨q, hq, hqd⟩, hrest⟩ := drop_texts hD
          rw [unhide HN] at hK
          obtain ⟨b4, off4, s4, rfl, hs4, -, hbl4, hc4⟩ := hS.nth K hK
          obtain rfl : s4 = q := by rw [hq] at hs4; exact (Option.some.inj hs4).symm
          have hqz : s4.size = O := by have h1 := congrArg List.length hqd; simp at h1; rw [h1]; exact unhide HC
          have hne : ((s4.size : Int) != (O : Int)) = false := by rw [hqz]; simp
          have HD2 := hide hrest
          clear hD hdc hqd hq hs4 HD hrest hqz
          go_wp2_with (go_at_call 26; refine (hspace_any _ _).mono ?_; rintro e w' ⟨rfl, hw⟩; obtain rfl := hw.symm)
          go_round
          case rel => exact ⟨K + 1, 0, I + 1, [], by go_num, rfl, by go_num, by omega, by omega, by omega, rfl, HD2⟩
          case measure => simp [intOf]; omega
        · rw [if_pos (List.eq_nil_of_length_eq_zero (by have := unhide HC; omega))] at hD
          have HD2 := hide hD
          clear hD hdc HD
          go_wp2_with (go_at_call 26; refine (hspace_any _ _).mono ?_; rintro e w' ⟨rfl, hw⟩; obtain rfl := hw.symm)
          go_round
          case rel => exact ⟨K, 0, I + 1, [], rfl, by first | rfl | (congr 1; omega), by go_num, hKn, by omega, by omega, rfl, HD2⟩
          case measure => simp [intOf]; omega
    · have hD := unhide HD
      rw [List.drop_of_length_le (l := a0.data.toList) (by simp; omega), fieldsGo_end] at hD
      by_cases hO0 : 0 < O
      · rw [if_neg (by intro h; have := unhide HC; rw [h] at this; simp at this; omega)] at hD
        obtain ⟨hK, ⟨q, hq, hqd⟩, hrest⟩ := drop_texts hD
        rw [unhide HN] at hK
        obtain ⟨b4, off4, s4, rfl, hs4, -, hbl4, hc4⟩ := hS.nth K hK
        obtain rfl : s4 = q := by rw [hq] at hs4; exact (Option.some.inj hs4).symm
        have hqz : s4.size = O := by have h1 := congrArg List.length hqd; simp at h1; rw [h1]; exact unhide HC
        have hne : ((s4.size : Int) != (O : Int)) = false := by rw [hqz]; simp
        have hKe : Hid (K + 1 = n) := by
          have h1 := congrArg List.length hrest
          rw [List.length_drop, textsF_length, unhide HN] at h1
          show _ = _
          simp at h1; omega
        clear hD hqd hq hs4 HD hrest hqz
        go_wp2
        go_ret
        exact ⟨ret_bool (by have := unhide hKe; simp; omega), hb1⟩
      · rw [if_pos (List.eq_nil_of_length_eq_zero (by have := unhide HC; omega))] at hD
        have hKe : Hid (K = n) := by
          have h1 := congrArg List.length hD
          rw [List.length_drop, textsF_length, unhide HN] at h1
          show _ = _
          simp at h1; omega
        clear hD HD
        go_wp2
        go_ret
        exact ⟨ret_bool (by have := unhide hKe; simp; omega), hb1⟩
end Go.Proofs.Ymbrdk
