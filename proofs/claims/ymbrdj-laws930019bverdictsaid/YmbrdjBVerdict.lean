import Derived.Test.YmbrdjBLaws
set_option linter.unusedSimpArgs false
set_option linter.unusedVariables false
namespace Go.Proofs.Ymbrdj
open Go.RowKit

set_option maxHeartbeats 3000000 in
theorem bVerdict_walk (a0 : Option Addr) (len0 cap0 : Nat) (z0 : List ByteArray) (a1 a2 a3 : Int) (w : World) (w0 : Strs w a0 len0 cap0 z0) (w1 : (Lit.int .i64 a1).wf = true) (w2 : (Lit.int .u8 a2).wf = true) (w3 : (Lit.int .u8 a3).wf = true) :
    Calls Ydjm.prog 7 #[.slice a0 len0 cap0, .int .i64 a1, .int .u8 a2, .int .u8 a3] w fun e w' => e = .returned (.bool true) ∧ Below w.heap.size w w' := by
  obtain ⟨hb1, hb2⟩ := bounds_i64 w1
  obtain ⟨hc1, hc2⟩ := bounds_u8 w2
  obtain ⟨hd1, hd2⟩ := bounds_u8 w3
  clear w1 w2 w3
  have hl := hide w0.hlen
  obtain ⟨q, hq, hq3⟩ : ∃ q : Nat, a3 % 3 = (q : Int) ∧ q < 3 := ⟨(a3 % 3).toNat, by omega, by omega⟩
  obtain ⟨r0, hr, hr3⟩ : ∃ r : Nat, a2 % 3 = (r : Int) ∧ r < 3 := ⟨(a2 % 3).toNat, by omega, by omega⟩
  go_enter Ydjm.func7, Ydjm.ntmps7
  go_wp2_with fail
  refine (bjoined_any _ _ _ z0 _ w0).mono ?_
  rintro e w' ⟨hx, hw⟩
  obtain rfl := hw.symm
  rcases hx with ⟨hn, rfl⟩ | ⟨hsm, rfl⟩
  · go_wp2
    go_ret
    exact ⟨rfl, Below.refl _ _⟩
  have HS := hide hsm
  obtain ⟨hs1, hs2⟩ := hsm
  have hs3 : len0 ≤ 1024 := by have := unhide hl; omega
  have hjb : jlen z0 ≤ 33791 := by unfold jlen; omega
  rcases (show r0 = 1 ∨ r0 = 2 ∨ r0 = 0 by omega) with h | h | h
  · subst h
    go_wp2_with fail
    refine (verdict_core _ _ _ z0 ((jlen z0 : Int) + (q : Int) - 1) _ w0 (unhide HS) (by omega)).mono ?_
    rintro e x1 (⟨h1, h2, r, rfl, hrz, hb⟩ | ⟨hn, rfl, hb⟩)
    · have hq : ((r.size : Int) == ((jlen z0 : Int) + (q : Int) - 1)) = true := by rw [hrz]; simp
      clear hrz
      go_wp2
      go_ret
      exact ⟨rfl, hb⟩
    · by_cases h1 : (jlen z0 : Int) ≤ ((jlen z0 : Int) + (q : Int) - 1)
      · have h2 : ¬ ((jlen z0 : Int) + (q : Int) - 1) ≤ 65536 := fun h => hn ⟨h1, h⟩
        clear hn
        first
          | (exfalso; omega)
          | (go_wp2; go_ret; exact ⟨rfl, hb⟩)
      · have hd : decide ((jlen z0 : Int) ≤ ((jlen z0 : Int) + (q : Int) - 1)) = false := by simp; omega
        clear hn
        go_wp2
        go_ret
        exact ⟨rfl, hb⟩
  · subst h
    go_wp2_with fail
    refine (verdict_core _ _ _ z0 (65536 + (q : Int) - 1) _ w0 (unhide HS) (by omega)).mono ?_
    rintro e x1 (⟨h1, h2, r, rfl, hrz, hb⟩ | ⟨hn, rfl, hb⟩)
    · have hq : ((r.size : Int) == (65536 + (q : Int) - 1)) = true := by rw [hrz]; simp
      clear hrz
      go_wp2
      go_ret
      exact ⟨rfl, hb⟩
    · by_cases h1 : (jlen z0 : Int) ≤ (65536 + (q : Int) - 1)
      · have h2 : ¬ (65536 + (q : Int) - 1) ≤ 65536 := fun h => hn ⟨h1, h⟩
        clear hn
        first
          | (exfalso; omega)
          | (go_wp2; go_ret; exact ⟨rfl, hb⟩)
      · have hd : decide ((jlen z0 : Int) ≤ (65536 + (q : Int) - 1)) = false := by simp; omega
        clear hn
        go_wp2
        go_ret
        exact ⟨rfl, hb⟩
  · subst h
    go_wp2_with fail
    refine (verdict_core _ _ _ z0 a1 _ w0 (unhide HS) (by omega)).mono ?_
    rintro e x1 (⟨h1, h2, r, rfl, hrz, hb⟩ | ⟨hn, rfl, hb⟩)
    · have hq : ((r.size : Int) == a1) = true := by rw [hrz]; simp
      clear hrz
      go_wp2
      go_ret
      exact ⟨rfl, hb⟩
    · by_cases h1 : (jlen z0 : Int) ≤ a1
      · have h2 : ¬ a1 ≤ 65536 := fun h => hn ⟨h1, h⟩
        clear hn
        first
          | (exfalso; omega)
          | (go_wp2; go_ret; exact ⟨rfl, hb⟩)
      · have hd : decide ((jlen z0 : Int) ≤ a1) = false := by simp; omega
        clear hn
        go_wp2
        go_ret
        exact ⟨rfl, hb⟩
end Go.Proofs.Ymbrdj
