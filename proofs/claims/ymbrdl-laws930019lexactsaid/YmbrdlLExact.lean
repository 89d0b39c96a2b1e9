import Derived.Test.YmbrdlAlign
import Derived.Test.YmbrdlOpen
set_option linter.unusedSimpArgs false
set_option linter.unusedVariables false
namespace Go.Proofs.Ymbrdl
open Go.RowKit

theorem byte_at (r : ByteArray) (l : List UInt8) (h : r.data.toList = l) (k : Nat) (hk : k < r.size) : r[k] = l[k]'(by rw [← h, data_len]; exact hk) := by
  subst h; rfl

theorem align_in (s : List UInt8) (wd : Nat) (mode : Int) (j : Nat) (hj : j < s.length) (h : s.length ≤ wd) :
    (alignL s wd mode)[befN mode (wd - s.length) + j]? = s[j]? := by
  unfold alignL
  rw [List.getElem?_append_left (by rw [List.length_append, spaces_length]; omega), List.getElem?_append_right (by rw [spaces_length]; omega), spaces_length, Nat.add_sub_cancel_left]
theorem align_out (s : List UInt8) (wd : Nat) (mode : Int) (k : Nat) (hk : k < wd) (h : s.length ≤ wd) (ho : k < befN mode (wd - s.length) ∨ befN mode (wd - s.length) + s.length ≤ k) :
    (alignL s wd mode)[k]? = some 32 := by
  have hb := befN_le mode (wd - s.length)
  unfold alignL
  rcases ho with ho | ho
  · rw [List.getElem?_append_left (by rw [List.length_append, spaces_length]; omega), List.getElem?_append_left (by rw [spaces_length]; omega), spaces, List.getElem?_replicate, if_pos ho]
  · rw [List.getElem?_append_right (by rw [List.length_append, spaces_length]; omega), spaces, List.getElem?_replicate, if_pos (by rw [List.length_append, spaces_length]; omega)]

set_option maxHeartbeats 400000 in
theorem lbefore_any (pad : Nat) (mode : Int) (w : World) (hp : pad ≤ 65536) :
    Calls Ydlm.prog 29 #[.int .i64 pad, .int .i64 mode] w fun e w' => e = .returned (.int .i64 (befN mode pad)) ∧ w' = w := by
  by_cases h1 : mode = 1
  · subst h1
    go_enter Ydlm.func29, Ydlm.ntmps29
    go_wp2
    go_ret
    exact ⟨ret_int (by simp [befN]), rfl⟩
  by_cases h2 : mode = 2
  · subst h2
    go_enter Ydlm.func29, Ydlm.ntmps29
    go_wp2
    go_ret
    exact ⟨ret_int (by simp [befN]), rfl⟩
  have e1 : (mode == 1) = false := by simpa using h1
  have e2 : (mode == 2) = false := by simpa using h2
  have HE := hide (show (0 : Int) = (befN mode pad : Int) by simp [befN, h1, h2])
  clear h1 h2
  go_enter Ydlm.func29, Ydlm.ntmps29
  go_wp2
  go_ret
  exact ⟨ret_int (unhide HE), rfl⟩

theorem lbefore_int (n : Int) (mode : Int) (w : World) (h0 : 0 ≤ n) (hp : n ≤ 65536) :
    Calls Ydlm.prog 29 #[.int .i64 n, .int .i64 mode] w fun e w' => e = .returned (.int .i64 (befN mode n.toNat)) ∧ w' = w := by
  obtain ⟨pad, rfl⟩ := Int.eq_ofNat_of_zero_le h0
  exact lbefore_any pad mode w (by omega)

theorem lx_in (s r : ByteArray) (wd bef j : Nat) (mode : Int) (h1 : s.size ≤ wd) (hbef : bef = befN mode (wd - s.size)) (hr : r.data.toList = alignL s.data.toList wd mode) (hj : j < s.size) (hk : bef + j < r.size) : r[bef + j] = s[j] := by
  have h := align_in s.data.toList wd mode j (by rw [data_len]; exact hj) (by rw [data_len]; exact h1)
  rw [data_len, ← hbef, ← hr, List.getElem?_eq_getElem (by rw [data_len]; exact hk), List.getElem?_eq_getElem (by rw [data_len]; exact hj)] at h
  exact Option.some.inj h
theorem lx_out (s r : ByteArray) (wd bef k : Nat) (mode : Int) (h1 : s.size ≤ wd) (hbef : bef = befN mode (wd - s.size)) (hr : r.data.toList = alignL s.data.toList wd mode) (hk : k < r.size) (hw : k < wd) (ho : k < bef ∨ bef + s.size ≤ k) : r[k].toNat = 32 := by
  have h := align_out s.data.toList wd mode k hw (by rw [data_len]; exact h1) (by rw [data_len, ← hbef]; exact ho)
  rw [← hr, List.getElem?_eq_getElem (by rw [data_len]; exact hk)] at h
  have h' : r[k] = 32 := Option.some.inj h
  rw [h']; rfl

set_option maxHeartbeats 1600000 in
theorem lExact_yes (s : ByteArray) (wd : Nat) (mode : Int) (w : World) (h1 : s.size ≤ wd) (h2 : wd ≤ 65536) (hm : mode = 0 ∨ mode = 1 ∨ mode = 2) :
    Calls Ydlm.prog 12 #[.string s, .int .i64 wd, .int .i64 mode] w fun e w' => e = .returned (.bool true) ∧ Below w.heap.size w w' := by
  obtain ⟨m0, m1⟩ : 0 ≤ mode ∧ mode ≤ 2 := by omega
  obtain ⟨bef, hbef⟩ : ∃ bef, bef = befN mode (wd - s.size) := ⟨_, rfl⟩
  have hbl := befN_le mode (wd - s.size)
  rw [← hbef] at hbl
  have HBEF := hide hbef
  clear hbef
  have hk0 : (mode == 0 || (mode == 1 || mode == 2)) = true := by rcases hm with rfl | rfl | rfl <;> rfl
  have F : Calls Ydlm.prog 12 #[.string s, .int .i64 wd, .int .i64 mode] w fun e w' => e = .returned (.bool true) ∧ Below w.heap.size w w' := by
    rcases hm with rfl | rfl | rfl
    all_goals
      go_enter Ydlm.func12, Ydlm.ntmps12
      go_wp2_with fail
      refine (align_str _ _ _ _ (by omega) (by omega) (by omega) (by omega)).mono ?_
      rintro e w1 ⟨r, rfl, LR, Z, hb⟩
      have hz : r.size = wd := by have := unhide Z; omega
      have HB := hide hb
      clear hb Z
      have hne : ((r.size : Int) != (wd : Int)) = false := by rw [hz]; simp
      have hz' : r.size ≤ wd := by omega
      have hz'' : wd ≤ r.size := by omega
      clear hz
      go_wp2_with fail
      refine (lbefore_int _ _ _ (by omega) (by omega)).mono ?_
      rw [show (befN _ ((wd : Int) - s.size).toNat) = bef from by rw [unhide HBEF]; congr 1; omega]
      rintro e w2 ⟨rfl, rfl⟩
      go_wp2
      go_loop [11, 12] (fun i _ => ∃ k : Nat, k ≤ wd ∧ i = .int .i64 k) (fun i _ => wd - (intOf i).toNat)
      case atStart => exact ⟨0, Nat.zero_le _, rfl⟩
      case round =>
        obtain ⟨k, hk, rfl⟩ := hrel
        by_cases hlt : k < wd
        · by_cases hin : bef ≤ k ∧ k < bef + s.size
          · obtain ⟨j, rfl⟩ : ∃ j, k = bef + j := ⟨k - bef, by omega⟩
            have hj : j < s.size := by omega
            have hrk : bef + j < r.size := by omega
            have hq := lx_in s r wd bef j _ h1 (unhide HBEF) (by have := unhide LR; simpa using this) hj hrk
            go_wp2
            go_round
            case rel => exact ⟨bef + j + 1, by omega, by go_num⟩
            case measure => simp [intOf]; omega
          · have hrk : k < r.size := by omega
            have hq := lx_out s r wd bef k _ h1 (unhide HBEF) (by have := unhide LR; simpa using this) hrk hlt (by omega)
            by_cases hin2 : bef ≤ k
            all_goals
              go_wp2
              go_round
              case rel => exact ⟨k + 1, by omega, by go_num⟩
              case measure => simp [intOf]; omega
        · go_wp2
          go_ret
          exact ⟨rfl, unhide HB⟩
  exact F

set_option maxHeartbeats 1600000 in
theorem lExact_no (s : ByteArray) (width mode : Int) (w : World) (hs : s.size ≤ maxLen) (hw : width ≤ 9223372036854775807) (h : width < s.size ∨ 65536 < width ∨ mode < 0 ∨ 2 < mode) :
    Calls Ydlm.prog 12 #[.string s, .int .i64 width, .int .i64 mode] w fun e w' => e = .returned (.bool true) ∧ Below w.heap.size w w' := by
  have hs' := hs
  unfold maxLen at hs'
  go_enter Ydlm.func12, Ydlm.ntmps12
  go_wp2_with fail
  refine (align_no _ _ _ _ hs hw h).mono ?_
  rintro e w' ⟨rfl, rfl⟩
  by_cases hm : 0 ≤ mode ∧ mode ≤ 2
  · have h' : width < s.size ∨ 65536 < width := by omega
    rcases (show mode = 0 ∨ mode = 1 ∨ mode = 2 by omega) with rfl | rfl | rfl
    all_goals
      by_cases hx : width < s.size
      · clear h h'
        go_wp2
        go_ret
        exact ⟨rfl, Below.refl _ _⟩
      · have hy : 65536 < width := by omega
        clear h h'
        go_wp2
        go_ret
        exact ⟨rfl, Below.refl _ _⟩
  · have e0 : (mode == 0) = false := by simp; omega
    have e1 : (mode == 1) = false := by simp; omega
    have e2 : (mode == 2) = false := by simp; omega
    clear h hm
    go_wp2
    go_ret
    exact ⟨rfl, Below.refl _ _⟩

theorem lExact_walk (a0 : ByteArray) (a1 a2 : Int) (w : World) (w0 : a0.size ≤ maxLen) (w1 : (Lit.int .i64 a1).wf = true) (w2 : (Lit.int .i64 a2).wf = true) :
    Calls Ydlm.prog 12 #[.string a0, .int .i64 a1, .int .i64 a2] w fun e w' => e = .returned (.bool true) ∧ Below w.heap.size w w' := by
  obtain ⟨hb1, hb2⟩ := bounds_i64 w1
  by_cases h : a1 < a0.size ∨ 65536 < a1 ∨ a2 < 0 ∨ 2 < a2
  · exact lExact_no a0 a1 a2 w w0 hb2 h
  · obtain ⟨wd, rfl⟩ := Int.eq_ofNat_of_zero_le (show 0 ≤ a1 by omega)
    exact lExact_yes a0 wd a2 w (by omega) (by omega) (by omega)
end Go.Proofs.Ymbrdl
