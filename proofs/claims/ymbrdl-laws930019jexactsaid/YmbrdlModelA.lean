import Derived.Test.YmbrdlModelP
import Derived.Test.YmbrdlJRefill
set_option linter.unusedSimpArgs false
set_option linter.unusedVariables false
namespace Go.Proofs.Ymbrdl
open Go.RowKit

set_option maxHeartbeats 800000 in
theorem jmodel_empty (s : ByteArray) (width mode : Int) (w : World) (hs : s.size ≤ 1024) (hws : wsOf s.data.toList = []) :
    Calls Ydlm.prog 19 #[.string s, .int .i64 width, .int .i64 mode] w fun e w' => e = .returned (.tuple #[.string ⟨#[]⟩, .bool true]) ∧ w' = w := by
  have HWS := hide hws
  clear hws
  go_enter Ydlm.func19, Ydlm.ntmps19
  go_wp2_with fail
  refine (jlongest_any _ _ (by omega)).mono ?_
  rintro e w' ⟨⟨m, rfl, hm, HM⟩, hw⟩
  obtain rfl := hw.symm
  obtain rfl := long_zero (unhide HM) (unhide HWS)
  go_wp2
  go_ret2
  exact ⟨rfl, rfl⟩

set_option maxRecDepth 8000 in
set_option maxHeartbeats 1600000 in
theorem jmodel_bad (s : ByteArray) (width mode : Int) (w : World) (hs : s.size ≤ 1024) (hws : wsOf s.data.toList ≠ []) (hbad : (∃ x ∈ wsOf s.data.toList, width < (x.size : Int)) ∨ 65536 < width ∨ mode < 0 ∨ 3 < mode) :
    Calls Ydlm.prog 19 #[.string s, .int .i64 width, .int .i64 mode] w fun e w' => e = .returned (.tuple #[.string ⟨#[]⟩, .bool false]) ∧ w' = w := by
  have HWS := hide hws
  have HBAD := hide hbad
  clear hws hbad
  go_enter Ydlm.func19, Ydlm.ntmps19
  go_wp2_with fail
  refine (jlongest_any _ _ (by omega)).mono ?_
  rintro e w' ⟨⟨m, rfl, hm, HM⟩, hw⟩
  obtain rfl := hw.symm
  have hp := long_pos (unhide HM) (unhide HWS)
  have hmz : ((m : Int) == 0) = false := beq_eq_false_iff_ne.2 (by omega)
  have hB2 : Hid (width < (m : Int) ∨ 65536 < width ∨ mode < 0 ∨ 3 < mode) := by
    rcases unhide HBAD with ⟨x, hx, h⟩ | h
    · refine .inl ?_
      by_cases h1 : width < (m : Int)
      · exact h1
      · have := (long_fit (width := width) (unhide HM) hp).2 (by omega) x hx
        omega
    · exact .inr h
  clear HBAD HM HWS
  by_cases h1 : mode < 0
  · go_wp2
    go_ret2
    exact ⟨rfl, rfl⟩
  by_cases h2 : 3 < mode
  · go_wp2
    go_ret2
    exact ⟨rfl, rfl⟩
  by_cases h3 : 65536 < width
  · go_wp2
    go_ret2
    exact ⟨rfl, rfl⟩
  have h4 : width < (m : Int) := by have := unhide hB2; omega
  go_wp2
  go_ret2
  exact ⟨rfl, rfl⟩

end Go.Proofs.Ymbrdl
