/-
  The row's step of 'KTight', after the guide's own frame: the walk 'kTight_walk' lifted to the given statement.
-/
import Derived.Test.YmbrdlKLaws2
import Derived.Test.YmbrdlOpen
set_option linter.unusedVariables false
set_option linter.unusedSimpArgs false
namespace Go.Proofs.Ymbrdl.kTight
open Go.ChangeShapes Go.WideShapes Go.ChangeAt Go.RowKit
open Go.ChangeMaps (open_string shut_string)

theorem own : ownKnob Ydlm.prog.godebug = none := by kernel_rfl
theorem laidOut : laidOutB Ydlm.prog = true := by kernel_rfl

set_option maxRecDepth 100000 in
theorem lifted (os : Os) (started : os.Started) (H : Type) (enc : TypeId × Value → H) :
    ReturnsInHanded {} Ydlm.checked os 10 .any (Rows.lawS930019KTightSpec.pre6 enc Ydlm.prog Ydlm.f10 Rows.lawS930019KTightRow.domain false) (Rows.lawS930019KTightSpec.post enc Ydlm.prog Ydlm.f10 false true false false) := by
  refine returnsInHanded_of_change (C := Ydlm.checked) own started (by kernel_rfl) Ydlm.func10
    (ChangeSpec.witness6 (enc := enc) (C := Ydlm.checked) false ⟨#[], #[.slice none 0 0, .int .u8 0], []⟩ 8 (by kernel_rfl) (by kernel_rfl) (by kernel_rfl) (by kernel_rfl)) ?_
  intro W base args ds gs before hval0 hW hcnd _
  have hval : ∀ (j : Nat) t v, Ydlm.f10.params[j]? = some t → args[j]? = some v → Value.okWide Ydlm.prog W .any base t v := hval0
  have hW' := hW
  obtain ⟨p, q, hA0, hV, rfl, hfz, hnd⟩ := hW
  have hA : DataW.TrodAll enc Ydlm.prog W 0 (fun _ => true) true Ydlm.f10.params.toList args.toList ds p := hA0
  rw [Ydlm.params10] at hA hval
  obtain ⟨v0, vs0, d0, ds0, p0, q0, hargs, rfl, rfl, h0, r0⟩ := trodAll_cons hA
  obtain ⟨v1, vs1, d1, ds1, p1, q1, rfl, rfl, rfl, h1, r1⟩ := trodAll_cons r0
  obtain ⟨rfl, rfl, rfl⟩ := trodAll_nil r1
  obtain rfl : args = #[v0, v1] := by cases args; simp_all
  obtain ⟨rfl, rfl⟩ := trodVars_none hV
  obtain ⟨a0, len0, cap0, rfl⟩ := okWide_slice Ydlm.underlying38 (hval 0 38 v0 rfl rfl)
  have k0 := h0
  have lt0 : ∀ x ∈ p0, x.block < W.heap.size := by obtain ⟨m, hm⟩ := k0; exact DataW.trod_lt m _ _ _ hm
  obtain ⟨z0, w0⟩ := strss_of Ydlm.underlying38 Ydlm.underlying22 Ydlm.underlying9 (by kernel_rfl) (by kernel_rfl) h0
  obtain ⟨a1, rfl, rfl, rfl, w1⟩ := open_int Ydlm.underlying5 (hval 1 5 v1 rfl rfl) h1
  clear hA0 hval0
  refine (kTight_walk a0 len0 cap0 z0 a1 W w0 w1).mono fun e W' ⟨he, bel⟩ => ?_
  subst he
  exact ⟨_, rfl, _, _, _, [], _, [], hW', trodAll_mk1 (shut_bool Ydlm.underlying4 _), (trodAll_cons_mk (Below.trod laidOut (by kernel_rfl) (of_decide_eq_true (by kernel_rfl)) k0 bel lt0) (trodAll_cons_mk (shut_int Ydlm.underlying5 w1) trodAll_mk0)), rfl, bel.frame _, fun h => by cases h⟩

theorem over : Rows.lawS930019KTightRow.holds Ydlm.pinned (OpenSpec.ofChange Rows.lawS930019KTightSpec) :=
  OpenClaim.holds_of_wide 10 Ydlm.f10 rfl rfl rfl rfl rfl rfl rfl ⟨rfl, rfl, rfl, rfl, rfl⟩ rfl rfl rfl rfl rfl (by kernel_rfl) Ydlm.func10 (by kernel_rfl)
    (of_decide_eq_true (by kernel_rfl)) (by unfold Func.isWrapper; first | (rw [if_pos (by decide +kernel)]; kernel_rfl) | (rw [if_neg (by decide +kernel)]; exact ⟨rfl, rfl⟩))
    (fun os started H enc _ => lifted os started H enc)

/-- The given statement. -/
theorem proved : Rows.LawS930019KTightSaid := over
end Go.Proofs.Ymbrdl.kTight
