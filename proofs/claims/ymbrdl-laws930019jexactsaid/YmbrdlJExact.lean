import Derived.Test.YmbrdlModelA
import Derived.Test.YmbrdlModel0
import Derived.Test.YmbrdlModel1
import Derived.Test.YmbrdlModel2
import Derived.Test.YmbrdlModel3
set_option linter.unusedSimpArgs false
set_option linter.unusedVariables false
namespace Go.Proofs.Ymbrdl
open Go.RowKit

theorem jmodel_good (s : ByteArray) (W : Nat) (mode : Int) (w : World) (hs : s.size ≤ 1024) (hfit : ∀ x ∈ wsOf s.data.toList, (x.size : Int) ≤ (W : Int)) (hws : wsOf s.data.toList ≠ []) (hW : W ≤ 65536) (hm0 : 0 ≤ mode) (hm3 : mode ≤ 3) :
    Calls Ydlm.prog 19 #[.string s, .int .i64 W, .int .i64 mode] w fun e w' => ∃ r : ByteArray, e = .returned (.tuple #[.string r, .bool true]) ∧ Hid (r.data.toList = fillL W mode (wrapL W (wsOf s.data.toList))) ∧ Below w.heap.size w w' := by
  rcases (show mode = 0 ∨ mode = 1 ∨ mode = 2 ∨ mode = 3 by omega) with h | h | h | h
  · exact jmodel_good0 s W mode w hs hfit hws hW h
  · exact jmodel_good1 s W mode w hs hfit hws hW h
  · exact jmodel_good2 s W mode w hs hfit hws hW h
  · exact jmodel_good3 s W mode w hs hfit hws hW h

set_option maxHeartbeats 2000000 in
theorem jExact_walk (a0 : Option Addr) (len0 cap0 : Nat) (z0 : List Int) (a1 a2 : Int) (w : World) (w0 : Nums .u8 w a0 len0 cap0 z0) (w1 : (Lit.int .u32 a1).wf = true) (w2 : (Lit.int .u8 a2).wf = true) :
    Calls Ydlm.prog 6 #[.slice a0 len0 cap0, .int .u32 a1, .int .u8 a2] w fun e w' => e = .returned (.bool true) ∧ Below w.heap.size w w' := by
  obtain ⟨p1, q1⟩ := bounds_u32 w1
  obtain ⟨p2, q2⟩ := bounds_u8 w2
  clear w1 w2
  have hle := w0.le
  have hmx := w0.max
  unfold maxLen at hmx
  by_cases hbig : 1024 < len0
  · go_enter Ydlm.func6, Ydlm.ntmps6
    go_wp2
    go_ret
    exact ⟨rfl, Below.refl _ _⟩
  go_enter Ydlm.func6, Ydlm.ntmps6
  go_wp2_with fail
  refine (jtext_any _ _ _ z0 _ w0 (by omega)).mono ?_
  rintro e x1 ⟨s, rfl, hsz, hb1⟩
  obtain ⟨W, hW, hW2⟩ : ∃ W : Nat, a1 % 65538 = W ∧ W ≤ 65537 := ⟨(a1 % 65538).toNat, by omega, by omega⟩
  obtain ⟨mode, hM, hM0, hM2⟩ : ∃ m : Int, a2 % 5 = m ∧ 0 ≤ m ∧ m ≤ 4 := ⟨a2 % 5, rfl, by omega, by omega⟩
  have hcnt : (wsOf s.data.toList).length ≤ 1024 := Nat.le_trans (ws_len _) (by rw [data_len]; omega)
  have HW := hide hW
  have HM := hide hM
  clear hW hM
  go_wp2_with fail
  rw [unhide HW, unhide HM]
  clear HW HM
  by_cases hws : wsOf s.data.toList = []
  · have HWS := hide hws
    have HF := hide fun w => fill_yes s W mode w (by omega) (by omega) (by omega) (by omega) (by rw [hws]; simp) (.inl hws)
    have HG := hide fun w => jmodel_empty s W mode w hsz hws
    clear hws
    refine (unhide HG _).mono ?_
    rintro e w' ⟨rfl, hw⟩
    obtain rfl := hw.symm
    go_wp2_with fail
    refine (unhide HF _).mono ?_
    rintro e x2 ⟨r, rfl, HR, hb2⟩
    have hr : r.data.toList = [] := by
      rw [unhide HR, unhide HWS]
      simp [wrapL, wrapGo_end, fillL, fillPre, glue]
    obtain rfl := empty_of hr
    have B2 := hb1.trans (hb2.mono hb1.size)
    clear hr HF HR HG hb2
    go_wp2
    go_ret
    exact ⟨rfl, B2⟩
  · by_cases hbad : (∃ x ∈ wsOf s.data.toList, (W : Int) < (x.size : Int)) ∨ 65536 < (W : Int) ∨ mode < 0 ∨ 3 < mode
    · have HF := hide fun w => fill_no s W mode w (by omega) (by omega) (by omega) hws hbad
      have HG := hide fun w => jmodel_bad s W mode w hsz hws hbad
      clear hws hbad
      refine (unhide HG _).mono ?_
      rintro e w' ⟨rfl, hw⟩
      obtain rfl := hw.symm
      go_wp2_with fail
      refine (unhide HF _).mono ?_
      rintro e x2 ⟨rfl, hb2⟩
      have B2 := hb1.trans (hb2.mono hb1.size)
      clear HF HG hb2
      go_wp2
      go_ret
      exact ⟨rfl, B2⟩
    · have hgood : (∀ x ∈ wsOf s.data.toList, (x.size : Int) ≤ (W : Int)) ∧ (W : Int) ≤ 65536 ∧ 0 ≤ mode ∧ mode ≤ 3 := by
        refine ⟨fun x hx => ?_, by omega, by omega, by omega⟩
        by_cases h1 : (W : Int) < (x.size : Int)
        · exact absurd (.inl ⟨x, hx, h1⟩) hbad
        · omega
      clear hbad
      obtain ⟨hg1, hg2, hg3, hg4⟩ := hgood
      have HF := hide fun w => fill_yes s W mode w (by omega) (by omega) (by omega) (by omega) hg1 (.inr ⟨hg2, hg3, hg4⟩)
      have HG := hide fun w => jmodel_good s W mode w hsz hg1 hws (by omega) hg3 hg4
      clear hws hg1
      refine (unhide HG _).mono ?_
      rintro e x2 ⟨r1, rfl, HR1, hb2⟩
      have B2 := hb1.trans (hb2.mono hb1.size)
      go_wp2_with fail
      refine (unhide HF _).mono ?_
      rintro e x3 ⟨r, rfl, HR, hb3⟩
      have B3 := B2.trans (hb3.mono B2.size)
      obtain rfl : r = r1 := WideShapes.bytes_inj (by rw [unhide HR, unhide HR1, Int.toNat_natCast])
      clear HR HR1 HF HG hb2 hb3 B2
      go_wp2
      go_ret
      exact ⟨rfl, B3⟩
end Go.Proofs.Ymbrdl
