import Derived.Test.YmbrdlJShape
import Derived.Test.YmbrdlJFuncs2
set_option linter.unusedSimpArgs false
set_option linter.unusedVariables false
namespace Go.Proofs.Ymbrdl
open Go.RowKit

theorem ws_half (t : List UInt8) : 2 * (wsOf t).length ≤ t.length + 1 := by
  have key : ∀ (t cur : List UInt8), 2 * (fieldsGo cur t).length ≤ t.length + 1 + (if cur = [] then 0 else 1) := by
    intro t
    induction t with
    | nil => intro cur; rw [fieldsGo_end]; split <;> simp
    | cons c t ih =>
      intro cur
      cases hs : isSp c
      · rw [fieldsGo_other _ _ _ hs]
        have := ih (cur ++ [c])
        rw [if_neg (by simp)] at this
        rw [List.length_cons]; split <;> omega
      · rw [fieldsGo_sp _ _ _ hs]
        have := ih []
        rw [if_pos rfl] at this
        split
        · rw [List.length_cons]; omega
        · rw [List.length_cons, List.length_cons]; omega
  have := key t []
  rw [if_pos rfl] at this
  unfold wsOf
  rw [List.length_map]; omega
theorem long_all {t : List UInt8} {m : Nat} (h : LongF (fieldsGo [] t) m) : ∀ x ∈ wsOf t, x.size ≤ m := by
  intro x hx
  obtain ⟨l, hl, rfl⟩ := List.mem_map.1 hx
  rw [arr_size]; exact h.le l hl

set_option maxHeartbeats 4000000 in
theorem jRefill_walk (a0 : Option Addr) (len0 cap0 : Nat) (z0 : List Int) (a1 a2 a3 : Int) (w : World) (w0 : Nums .u8 w a0 len0 cap0 z0) (w1 : (Lit.int .u8 a1).wf = true) (w2 : (Lit.int .u8 a2).wf = true) (w3 : (Lit.int .u8 a3).wf = true) :
    Calls Ydlm.prog 8 #[.slice a0 len0 cap0, .int .u8 a1, .int .u8 a2, .int .u8 a3] w fun e w' => e = .returned (.bool true) ∧ Below w.heap.size w w' := by
  obtain ⟨p1, q1⟩ := bounds_u8 w1
  obtain ⟨p2, q2⟩ := bounds_u8 w2
  obtain ⟨p3, q3⟩ := bounds_u8 w3
  clear w1 w2 w3
  have hle := w0.le
  have hmx := w0.max
  unfold maxLen at hmx
  by_cases hbig : 1024 < len0
  · go_enter Ydlm.func8, Ydlm.ntmps8
    go_wp2
    go_ret
    exact ⟨rfl, Below.refl _ _⟩
  go_enter Ydlm.func8, Ydlm.ntmps8
  go_wp2_with fail
  refine (jtext_any _ _ _ z0 _ w0 (by omega)).mono ?_
  rintro e x1 ⟨s, rfl, hsz, hb1⟩
  go_wp2_with fail
  refine (jlongest_any _ _ (by omega)).mono ?_
  rintro e w' ⟨⟨m, rfl, hm, HM⟩, hw⟩
  obtain rfl := hw.symm
  obtain ⟨W, hW, hWm, hW2⟩ : ∃ W : Nat, (m : Int) + a1 % 64 = W ∧ m ≤ W ∧ W ≤ 1087 := ⟨((m : Int) + a1 % 64).toNat, by omega, by omega, by omega⟩
  have HW := hide hW
  clear hW
  have HFIT : Hid (∀ x ∈ wsOf s.data.toList, (x.size : Int) ≤ (W : Int)) := fun x hx => by
    have := long_all (unhide HM) x hx
    omega
  have hcnt : (wsOf s.data.toList).length ≤ 512 := by
    have := ws_half s.data.toList
    rw [data_len] at this
    omega
  have hF : Hid (∀ (mode : Int) (w : World), 0 ≤ mode → mode ≤ 3 → _) := fun mode w h0 h3 => fill_yes s W mode w (by omega) (by omega) (by omega) (by omega) (unhide HFIT) (.inr ⟨by omega, h0, h3⟩)
  go_wp2_with fail
  rw [unhide HW]
  refine (unhide hF (a2 % 4) _ (by omega) (by omega)).mono ?_
  rintro e x2 ⟨r1, rfl, HR1, hb2⟩
  have HWS : Hid (wsOf r1.data.toList = wsOf s.data.toList) := by
    show _ = _
    have hfl := (wrapL_spec W _ (unhide HFIT)).2
    rw [unhide HR1, fillL_words, hfl]
    rw [hfl]; exact wsOf_words _
  have hrz : r1.size ≤ 600000 := by
    by_cases h0 : wsOf s.data.toList = []
    · have h1 := congrArg List.length (unhide HR1)
      rw [h0, data_len] at h1
      simp [wrapL, wrapGo_end, fillL, fillPre, glue] at h1
      rw [h1]; simp
    · obtain ⟨n, hn0, hnl, hlen, -⟩ := fill_shape (mode := a2 % 4) (unhide HFIT) h0
      rw [← unhide HR1, data_len, Int.toNat_natCast] at hlen
      have h2 : n * (W + 1) ≤ 512 * 1088 := Nat.mul_le_mul (by omega) (by omega)
      omega
  have B2 := hb1.trans (hb2.mono hb1.size)
  clear HM hb2 HW
  go_wp2_with fail
  refine (jwords_any _ _ (by omega)).mono ?_
  rintro e x3 ⟨va, rfl, hoa, -, HZa, hb3⟩
  have B3 := B2.trans (hb3.mono B2.size)
  go_wp2_with fail
  refine (jwords_any _ _ (by omega)).mono ?_
  rintro e x4 ⟨vb, rfl, hob, -, HZb, hb4⟩
  have B4 := B3.trans (hb4.mono B3.size)
  rw [unhide HWS] at hob
  have HZ : Hid (∀ x ∈ wsOf s.data.toList, x.size ≤ maxLen) := fun x hx => by have := unhide HZa x hx; unfold maxLen; omega
  obtain ⟨aa, ca, hva, hSa, -⟩ := Own.strs (hoa.below hb4) (unhide HZ)
  obtain ⟨ab, cb, hvb, hSb, -⟩ := Own.strs hob (unhide HZ)
  have HF1 : Hid (∀ (mode : Int) (w : World), 0 ≤ mode → mode ≤ 3 → _) := fun mode w h0 h3 => fill_yes r1 W mode w (by omega) (by rw [unhide HWS]; omega) (by omega) (by omega) (by rw [unhide HWS]; exact unhide HFIT) (.inr ⟨by omega, h0, h3⟩)
  generalize hwn : (wsOf s.data.toList).length = N at *
  have HWN := hide hwn
  subst hva hvb
  have hm1 := hSa.max
  have hl1 := hSa.le
  have hm2 := hSb.max
  have hl2 := hSb.le
  unfold maxLen at hm1 hm2
  clear hoa hob HZa HZb hb1 hb3 hb4 B2 B3 hwn
  have hnem : ((N : Int) != (N : Int)) = false := by simp
  go_wp2
  go_loopw [53] (fun i wr => ∃ k : Nat, k ≤ N ∧ i = .int .i64 k ∧ Below x4.heap.size x4 wr) (fun i _ => N - (intOf i).toNat)
  case atStart => exact ⟨0, Nat.zero_le _, rfl, Below.refl _ _⟩
  case round =>
    obtain ⟨k, hk, rfl, hbr⟩ := hrel
    by_cases hlt : k < N
    · obtain ⟨b4, off4, s4, rfl, hs4, -, hbl4, hc4⟩ := (hSa.below hbr).nth k hlt
      obtain ⟨b5, off5, s5, ha5, hs5, -, hbl5, hc5⟩ := (hSb.below hbr).nth k hlt
      first | subst ha5 | (simp at ha5; obtain ⟨rfl, rfl⟩ := ha5)
      obtain rfl : s5 = s4 := by rw [hs4] at hs5; exact (Option.some.inj hs5).symm
      clear hs4 hs5
      go_wp2_with fail
      go_quiet (fail)
      go_wp2
      go_roundw
      case rel => exact ⟨k + 1, by omega, by go_num, below_drewN hbr _⟩
      case measure => simp [intOf]; omega
    · have B5 := B4.trans (hbr.mono B4.size)
      clear hbr B4
      generalize wr = X at *
      go_wp2_with fail
      refine (unhide HF1 (a3 % 4) _ (by omega) (by omega)).mono ?_
      rintro e y1 ⟨r2, rfl, HR2, hy1⟩
      have B6 := B5.trans (hy1.mono B5.size)
      go_wp2_with fail
      refine (unhide hF (a3 % 4) _ (by omega) (by omega)).mono ?_
      rintro e y2 ⟨r3, rfl, HR3, hy2⟩
      have B7 := B6.trans (hy2.mono B6.size)
      obtain rfl : r2 = r3 := WideShapes.bytes_inj (by rw [unhide HR2, unhide HR3, unhide HWS])
      clear HR2 HR3 hy1 hy2 B5 B6
      go_wp2
      go_ret
      exact ⟨rfl, B7⟩
end Go.Proofs.Ymbrdl
