import Derived.Test.YmbrdlFillNo
import Derived.Test.YmbrdlFillS
import Derived.Test.YmbrdlJFuncs
import Derived.Deep.QuietTactic
import Derived.BigQuiet
set_option linter.unusedSimpArgs false
set_option linter.unusedVariables false
namespace Go.Proofs.Ymbrdl
open Go.RowKit

theorem long_zero {t : List UInt8} {m : Nat} (h : LongF (fieldsGo [] t) m) (he : wsOf t = []) : m = 0 := by
  rcases Nat.eq_zero_or_pos m with h0 | h0
  · exact h0
  · obtain ⟨l, hl, _⟩ := h.hit h0
    have h1 := textsF_wsOf t
    rw [he] at h1
    rw [← h1] at hl
    simp [textsF] at hl
theorem long_pos {t : List UInt8} {m : Nat} (h : LongF (fieldsGo [] t) m) (he : wsOf t ≠ []) : 0 < m := by
  rcases Nat.eq_zero_or_pos m with h0 | h0
  · have h1 := h.zero h0
    rw [wsOf, h1] at he
    exact absurd rfl he
  · exact h0
theorem long_fit {t : List UInt8} {m : Nat} {width : Int} (h : LongF (fieldsGo [] t) m) (he : 0 < m) : (∀ x ∈ wsOf t, (x.size : Int) ≤ width) ↔ (m : Int) ≤ width := by
  constructor
  · intro hf
    obtain ⟨l, hl, rfl⟩ := h.hit he
    exact hf ⟨l.toArray⟩ (List.mem_map.2 ⟨l, hl, rfl⟩)
  · intro hm x hx
    obtain ⟨l, hl, rfl⟩ := List.mem_map.1 hx
    have := h.le l hl
    rw [arr_size]; omega
theorem ws_len (t : List UInt8) : (wsOf t).length ≤ t.length := by
  have key : ∀ (t cur : List UInt8), (fieldsGo cur t).length ≤ t.length + (if cur = [] then 0 else 1) := by
    intro t
    induction t with
    | nil => intro cur; rw [fieldsGo_end]; split <;> simp
    | cons c t ih =>
      intro cur
      cases hs : isSp c
      · rw [fieldsGo_other _ _ _ hs]
        have := ih (cur ++ [c])
        rw [if_neg (by simp)] at this
        rw [List.length_cons]; split <;> omega
      · rw [fieldsGo_sp _ _ _ hs]
        have := ih []
        rw [if_pos rfl] at this
        split
        · rw [List.length_cons]; omega
        · rw [List.length_cons, List.length_cons]; omega
  have := key t []
  rw [if_pos rfl] at this
  unfold wsOf
  rw [List.length_map]; omega
theorem empty_of {r : ByteArray} (h : r.data.toList = []) : r = ⟨#[]⟩ := WideShapes.bytes_inj h

set_option maxHeartbeats 3000000 in
theorem jShape_walk (a0 : ByteArray) (a1 a2 : Int) (w : World) (w0 : a0.size ≤ maxLen) (w1 : (Lit.int .i64 a1).wf = true) (w2 : (Lit.int .i64 a2).wf = true) :
    Calls Ydlm.prog 7 #[.string a0, .int .i64 a1, .int .i64 a2] w fun e w' => e = .returned (.bool true) ∧ Below w.heap.size w w' := by
  unfold maxLen at w0
  obtain ⟨hw0, hw1⟩ := bounds_i64 w1
  obtain ⟨hm0, hm1⟩ := bounds_i64 w2
  clear w1 w2
  by_cases hbig : 1024 < a0.size
  · go_enter Ydlm.func7, Ydlm.ntmps7
    go_wp2
    go_ret
    exact ⟨rfl, Below.refl _ _⟩
  have hwl : (wsOf a0.data.toList).length ≤ 1024 := Nat.le_trans (ws_len _) (by rw [data_len]; omega)
  by_cases hws : wsOf a0.data.toList = []
  · have HWS := hide hws
    have HF := hide (fill_yes a0 a1 a2 w (by omega) (by omega) hw1 hw0 (by rw [hws]; simp) (.inl hws))
    clear hws
    go_enter Ydlm.func7, Ydlm.ntmps7
    go_wp2_with fail
    refine (unhide HF).mono ?_
    rintro e x1 ⟨r, rfl, HR, hb⟩
    have hr : r.data.toList = [] := by
      rw [unhide HR, unhide HWS]
      simp [wrapL, wrapGo_end, fillL, fillPre, glue]
    obtain rfl := empty_of hr
    clear hr HF HR
    go_wp2_with fail
    refine (jlongest_any _ _ (by omega)).mono ?_
    rintro e w' ⟨⟨m, rfl, hm, HM⟩, hw⟩
    obtain rfl := hw.symm
    obtain rfl := long_zero (unhide HM) (unhide HWS)
    go_wp2
    go_ret
    exact ⟨rfl, hb⟩
  · by_cases hbad : (∃ x ∈ wsOf a0.data.toList, a1 < (x.size : Int)) ∨ 65536 < a1 ∨ a2 < 0 ∨ 3 < a2
    · have HWS := hide hws
      have HBAD := hide hbad
      have HF := hide (fill_no a0 a1 a2 w (by omega) hw1 hw0 hws hbad)
      clear hws hbad
      go_enter Ydlm.func7, Ydlm.ntmps7
      go_wp2_with fail
      refine (unhide HF).mono ?_
      rintro e x1 ⟨rfl, hb⟩
      clear HF
      go_wp2_with fail
      refine (jlongest_any _ _ (by omega)).mono ?_
      rintro e w' ⟨⟨m, rfl, hm, HM⟩, hw⟩
      obtain rfl := hw.symm
      have hp := long_pos (unhide HM) (unhide HWS)
      have hmz : ((m : Int) == 0) = false := beq_eq_false_iff_ne.2 (by omega)
      have hB2 : Hid (a1 < (m : Int) ∨ 65536 < a1 ∨ a2 < 0 ∨ 3 < a2) := by
        rcases unhide HBAD with ⟨x, hx, h⟩ | h
        · refine .inl ?_
          by_cases h1 : a1 < (m : Int)
          · exact h1
          · have := (long_fit (width := a1) (unhide HM) hp).2 (by omega) x hx
            omega
        · exact .inr h
      clear HBAD HM HWS
      by_cases h1 : a2 < 0
      · go_wp2
        go_ret
        exact ⟨rfl, hb⟩
      by_cases h2 : 3 < a2
      · go_wp2
        go_ret
        exact ⟨rfl, hb⟩
      by_cases h3 : 65536 < a1
      · go_wp2
        go_ret
        exact ⟨rfl, hb⟩
      have h4 : a1 < (m : Int) := by have := unhide hB2; omega
      go_wp2
      go_ret
      exact ⟨rfl, hb⟩
    · have hgood : (∀ x ∈ wsOf a0.data.toList, (x.size : Int) ≤ a1) ∧ a1 ≤ 65536 ∧ 0 ≤ a2 ∧ a2 ≤ 3 := by
        refine ⟨fun x hx => ?_, by omega, by omega, by omega⟩
        by_cases h1 : a1 < (x.size : Int)
        · exact absurd (.inl ⟨x, hx, h1⟩) hbad
        · omega
      clear hbad
      obtain ⟨hg1, hg2, hg3, hg4⟩ := hgood
      have HWS := hide hws
      have HG1 := hide hg1
      have HF := hide (fill_yes a0 a1 a2 w (by omega) (by omega) hw1 hw0 hg1 (.inr ⟨hg2, hg3, hg4⟩))
      clear hws hg1
      go_enter Ydlm.func7, Ydlm.ntmps7
      go_wp2_with fail
      refine (unhide HF).mono ?_
      rintro e x1 ⟨r, rfl, HR, hb⟩
      clear HF
      go_wp2_with fail
      refine (jlongest_any _ _ (by omega)).mono ?_
      rintro e w' ⟨⟨m, rfl, hm, HM⟩, hw⟩
      obtain rfl := hw.symm
      have hp := long_pos (unhide HM) (unhide HWS)
      have hmz : ((m : Int) == 0) = false := beq_eq_false_iff_ne.2 (by omega)
      have hma := (long_fit (width := a1) (unhide HM) hp).1 (unhide HG1)
      obtain ⟨n, hn0, hnl, hlen, hat⟩ := fill_shape (mode := a2) (unhide HG1) (unhide HWS)
      rw [← unhide HR] at hlen hat
      rw [data_len] at hlen
      obtain ⟨W, rfl⟩ := Int.eq_ofNat_of_zero_le (show 0 ≤ a1 by omega)
      rw [Int.toNat_natCast] at hlen hat
      have HAT := hide hat
      have hrz : r.size ≤ 1024 * 65537 := by rw [hlen]; exact Nat.mul_le_mul (by omega) (by omega)
      have hrp : 0 < r.size := by rw [hlen]; exact Nat.mul_pos hn0 (by omega)
      have hr0 : ((r.size : Int) == 0) = false := beq_eq_false_iff_ne.2 (by omega)
      have hrm : (r.size : Int) % ((W : Int) + 1) = 0 := by
        have e : (r.size : Int) = (n : Int) * ((W : Int) + 1) := by rw [hlen]; simp
        rw [e]; exact Int.mul_emod_left _ _
      clear hat hlen HM HWS HG1 HR
      go_wp2
      go_loopw [10] (fun i wr => ∃ k : Nat, k ≤ r.size ∧ i = .int .i64 k ∧ Below w.heap.size w wr) (fun i _ => r.size - (intOf i).toNat)
      case atStart => exact ⟨0, Nat.zero_le _, rfl, hb⟩
      case round =>
        obtain ⟨k, hk, rfl, hbr⟩ := hrel
        clear hrm
        by_cases hlt : k < r.size
        · have hch : r.data.toList[k]? = some r[k] := by rw [List.getElem?_eq_getElem (by rw [data_len]; exact hlt)]; rfl
          have hiff := unhide HAT k r[k] hch
          have hcast : (k : Int) % ((W : Int) + 1) = ((k % (W + 1) : Nat) : Int) := by simp
          have HCA := hide hcast
          clear hch hcast
          by_cases hc : k % (W + 1) = W
          · have hA : ((r[k].toNat : Int) == 10) = true := by have := hiff.2 hc; simp; omega
            have hB : ((k : Int) % ((W : Int) + 1) == (W : Int)) = true := by rw [beq_iff_eq, unhide HCA, hc]
            clear hiff hc
            go_wp2_with fail
            go_quiet (fail)
            go_wp2
            go_roundw
            case rel => exact ⟨k + 1, by omega, by go_num, below_drewN hbr _⟩
            case measure => simp [intOf]; omega
          · have hA : ((r[k].toNat : Int) == 10) = false := by
              refine beq_eq_false_iff_ne.2 fun h => hc (hiff.1 (by omega))
            have hB : ((k : Int) % ((W : Int) + 1) == (W : Int)) = false := by
              refine beq_eq_false_iff_ne.2 fun h => hc (by rw [unhide HCA] at h; omega)
            clear hiff hc
            go_wp2_with fail
            go_quiet (fail)
            go_wp2
            go_roundw
            case rel => exact ⟨k + 1, by omega, by go_num, below_drewN hbr _⟩
            case measure => simp [intOf]; omega
        · go_wp2
          go_ret
          exact ⟨rfl, hbr⟩
end Go.Proofs.Ymbrdl
