import Derived.Test.YmbrdlRows
import Derived.Test.YmbrdlPlain
import Derived.WalkKit
import Derived.WalkSpells
import Derived.WalkLawsBesides
set_option linter.unusedSimpArgs false
set_option linter.unusedVariables false
namespace Go.Proofs.Ymbrdl
open Go.RowKit

set_option maxHeartbeats 400000 in
theorem isSpace_any (n : Int) (w : World) :
    Calls Ydlm.prog 38 #[.int .u8 n] w fun e w' => e = .returned (.bool (spB n)) ∧ w' = w := by
  by_cases h1 : n = 32
  · subst h1; go_enter Ydlm.func38, Ydlm.ntmps38; go_wp2; go_ret; exact ⟨rfl, rfl⟩
  by_cases h2 : n = 9
  · subst h2; go_enter Ydlm.func38, Ydlm.ntmps38; go_wp2; go_ret; exact ⟨rfl, rfl⟩
  by_cases h3 : n = 10
  · subst h3; go_enter Ydlm.func38, Ydlm.ntmps38; go_wp2; go_ret; exact ⟨rfl, rfl⟩
  have e1 : (n == 32) = false := by simpa using h1
  have e2 : (n == 9) = false := by simpa using h2
  have e3 : (n == 10) = false := by simpa using h3
  go_enter Ydlm.func38, Ydlm.ntmps38
  go_wp2
  go_ret
  exact ⟨ret_bool (by simp [spB, e1, e2, e3]), rfl⟩
end Go.Proofs.Ymbrdl
