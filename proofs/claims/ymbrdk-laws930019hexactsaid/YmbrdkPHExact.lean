/-
  The row's step of 'HExact', after the guide's own frame: the walk 'hExact_walk' lifted to the given statement.
-/
import Derived.Test.YmbrdkHExact
import Derived.Test.YmbrdkOpen
set_option linter.unusedVariables false
set_option linter.unusedSimpArgs false
namespace Go.Proofs.Ymbrdk.hExact
open Go.ChangeShapes Go.WideShapes Go.ChangeAt Go.RowKit
open Go.ChangeMaps (open_string shut_string)

theorem own : ownKnob Ydkm.prog.godebug = none := by kernel_rfl
theorem laidOut : laidOutB Ydkm.prog = true := by kernel_rfl

set_option maxRecDepth 100000 in
theorem lifted (os : Os) (started : os.Started) (H : Type) (enc : TypeId × Value → H) :
    ReturnsInHanded {} Ydkm.checked os 12 .any (Rows.lawS930019HExactSpec.pre6 enc Ydkm.prog Ydkm.f12 Rows.lawS930019HExactRow.domain false) (Rows.lawS930019HExactSpec.post enc Ydkm.prog Ydkm.f12 false true false false) := by
  refine returnsInHanded_of_change (C := Ydkm.checked) own started (by kernel_rfl) Ydkm.func12
    (ChangeSpec.witness6 (enc := enc) (C := Ydkm.checked) false ⟨#[], #[.string ByteArray.empty], []⟩ 8 (by kernel_rfl) (by kernel_rfl) (by kernel_rfl) (by kernel_rfl)) ?_
  intro W base args ds gs before hval0 hW hcnd _
  have hval : ∀ (j : Nat) t v, Ydkm.f12.params[j]? = some t → args[j]? = some v → Value.okWide Ydkm.prog W .any base t v := hval0
  have hW' := hW
  obtain ⟨p, q, hA0, hV, rfl, hfz, hnd⟩ := hW
  have hA : DataW.TrodAll enc Ydkm.prog W 0 (fun _ => true) true Ydkm.f12.params.toList args.toList ds p := hA0
  rw [Ydkm.params12] at hA hval
  obtain ⟨v0, vs0, d0, ds0, p0, q0, hargs, rfl, rfl, h0, r0⟩ := trodAll_cons hA
  obtain ⟨rfl, rfl, rfl⟩ := trodAll_nil r0
  obtain rfl : args = #[v0] := by cases args; simp_all
  obtain ⟨rfl, rfl⟩ := trodVars_none hV
  obtain ⟨a0, rfl, rfl, rfl, w0⟩ := open_string Ydkm.underlying9 (hval 0 9 v0 rfl rfl) h0
  clear hA0 hval0
  refine (hExact_walk a0 W w0).mono fun e W' ⟨he, bel⟩ => ?_
  subst he
  exact ⟨_, rfl, _, _, _, [], _, [], hW', trodAll_mk1 (shut_bool Ydkm.underlying4 _), (trodAll_cons_mk (shut_string Ydkm.underlying9 w0) trodAll_mk0), rfl, bel.frame _, fun h => by cases h⟩

theorem over : Rows.lawS930019HExactRow.holds Ydkm.pinned (OpenSpec.ofChange Rows.lawS930019HExactSpec) :=
  OpenClaim.holds_of_wide 12 Ydkm.f12 rfl rfl rfl rfl rfl rfl rfl ⟨rfl, rfl, rfl, rfl, rfl⟩ rfl rfl rfl rfl rfl (by kernel_rfl) Ydkm.func12 (by kernel_rfl)
    (of_decide_eq_true (by kernel_rfl)) (by unfold Func.isWrapper; first | (rw [if_pos (by decide +kernel)]; kernel_rfl) | (rw [if_neg (by decide +kernel)]; exact ⟨rfl, rfl⟩))
    (fun os started H enc _ => lifted os started H enc)

/-- The given statement. -/
theorem proved : Rows.LawS930019HExactSaid := over
end Go.Proofs.Ymbrdk.hExact
