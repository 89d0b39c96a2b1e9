/-
  The row's step of 'BTight', after the guide's own frame: the walk 'bTight_walk' lifted to the given statement.
-/
import Derived.Test.YmbrdjBLaws
import Derived.Test.YmbrdjOpen
set_option linter.unusedVariables false
set_option linter.unusedSimpArgs false
namespace Go.Proofs.Ymbrdj.bTight
open Go.ChangeShapes Go.WideShapes Go.ChangeAt Go.RowKit
open Go.ChangeMaps (open_string shut_string)

theorem own : ownKnob Ydjm.prog.godebug = none := by kernel_rfl
theorem laidOut : laidOutB Ydjm.prog = true := by kernel_rfl

set_option maxRecDepth 100000 in
theorem lifted (os : Os) (started : os.Started) (H : Type) (enc : TypeId × Value → H) :
    ReturnsInHanded {} Ydjm.checked os 8 .any (Rows.lawS930019BTightSpec.pre6 enc Ydjm.prog Ydjm.f8 Rows.lawS930019BTightRow.domain false) (Rows.lawS930019BTightSpec.post enc Ydjm.prog Ydjm.f8 false true false false) := by
  refine returnsInHanded_of_change (C := Ydjm.checked) own started (by kernel_rfl) Ydjm.func8
    (ChangeSpec.witness6 (enc := enc) (C := Ydjm.checked) false ⟨#[], #[.slice none 0 0], []⟩ 8 (by kernel_rfl) (by kernel_rfl) (by kernel_rfl) (by kernel_rfl)) ?_
  intro W base args ds gs before hval0 hW hcnd _
  have hval : ∀ (j : Nat) t v, Ydjm.f8.params[j]? = some t → args[j]? = some v → Value.okWide Ydjm.prog W .any base t v := hval0
  have hW' := hW
  obtain ⟨p, q, hA0, hV, rfl, hfz, hnd⟩ := hW
  have hA : DataW.TrodAll enc Ydjm.prog W 0 (fun _ => true) true Ydjm.f8.params.toList args.toList ds p := hA0
  rw [Ydjm.params8] at hA hval
  obtain ⟨v0, vs0, d0, ds0, p0, q0, hargs, rfl, rfl, h0, r0⟩ := trodAll_cons hA
  obtain ⟨rfl, rfl, rfl⟩ := trodAll_nil r0
  obtain rfl : args = #[v0] := by cases args; simp_all
  obtain ⟨rfl, rfl⟩ := trodVars_none hV
  obtain ⟨a0, len0, cap0, rfl⟩ := okWide_slice Ydjm.underlying23 (hval 0 23 v0 rfl rfl)
  have k0 := h0
  have lt0 : ∀ x ∈ p0, x.block < W.heap.size := by obtain ⟨m, hm⟩ := k0; exact DataW.trod_lt m _ _ _ hm
  obtain ⟨z0, w0⟩ := strs_of Ydjm.underlying23 Ydjm.underlying9 (by kernel_rfl) h0
  clear hA0 hval0
  refine (bTight_walk a0 len0 cap0 z0 W w0).mono fun e W' ⟨he, bel⟩ => ?_
  subst he
  exact ⟨_, rfl, _, _, _, [], _, [], hW', trodAll_mk1 (shut_bool Ydjm.underlying4 _), (trodAll_cons_mk (Below.trod laidOut (by kernel_rfl) (of_decide_eq_true (by kernel_rfl)) k0 bel lt0) trodAll_mk0), rfl, bel.frame _, fun h => by cases h⟩

theorem over : Rows.lawS930019BTightRow.holds Ydjm.pinned (OpenSpec.ofChange Rows.lawS930019BTightSpec) :=
  OpenClaim.holds_of_wide 8 Ydjm.f8 rfl rfl rfl rfl rfl rfl rfl ⟨rfl, rfl, rfl, rfl, rfl⟩ rfl rfl rfl rfl rfl (by kernel_rfl) Ydjm.func8 (by kernel_rfl)
    (of_decide_eq_true (by kernel_rfl)) (by unfold Func.isWrapper; first | (rw [if_pos (by decide +kernel)]; kernel_rfl) | (rw [if_neg (by decide +kernel)]; exact ⟨rfl, rfl⟩))
    (fun os started H enc _ => lifted os started H enc)

/-- The given statement. -/
theorem proved : Rows.LawS930019BTightSaid := over
end Go.Proofs.Ymbrdj.bTight
