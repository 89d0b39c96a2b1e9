/-
  No cell of these rows narrows 'for every input' (looked for: loops, veiled, ifaces, maps, wideKeys, modest, calm, conditions, laid).
  DERIVED. THE GIVEN ROWS OF THIS SEAT. 12 by the template 'for every input the law returns true; each argument reads behind the call as it read before'; 0 by the template 'total and deterministic' (their statements: YmbrdjTotals.lean).
  GIVEN WITH THE SEED: the statements are not yours to turn. If you find one false, say at which input.
  Laid BY PROGRAM, IN A SANDBOX (cutbox-rows.mjs): the forced cells as the released guide's own fill.sh prints them over the translation 9802a75ad29c3f55… (all of the seat's roots in one cut). By AI agents, Wed Nov 11 2026. No macro, syntax, notation, axiom, sorry.
-/
import Derived.Test.YmbrdjChecked
import GoSem.Claim
import GoSem.ClaimJoined
import GoSem.ClaimMapViews
import Derived.JoinedTies
import Derived.KernelRfl
namespace Go.Proofs.Ymbrdj
/- THE CELL 'sum', in the pinned program and in every row, IS THE sha256 OF THE DUMP (.gsa) THAT YmbrdjProg.lean LOADS. Nothing in Lean hashes anything: it is a label: what it is worth is what the hold of that sum in a sandbox is worth. -/
noncomputable def Ydjm.pinned : Pinned := { name := "ymbrdj", sum := "9802a75ad29c3f55526528763de835f836ad175868343436c6625a04662c2e3c", checked := Ydjm.checked }
namespace Rows
def none {H : Type} : Left H := { results := [], args := [] }

/-- 'textwrap.LawS930019AFlat': WHATEVER THE INPUT: true; the input reads as it did. -/
def lawS930019AFlatSpec : ChangeSpec := { name := "lawS930019AFlat", fn := fun _ => fun
  | [d] => { results := [.lit (.bool true)], args := [d] }
  | _ => none }
def lawS930019AFlatRow : OpenClaim := { program := "ymbrdj", sum := "9802a75ad29c3f55526528763de835f836ad175868343436c6625a04662c2e3c", func := "example.com/own/textwrap.LawS930019AFlat", spec := "lawS930019AFlat", apart := false }
def LawS930019AFlatSaid : Prop := lawS930019AFlatRow.holds Ydjm.pinned (OpenSpec.ofChange lawS930019AFlatSpec)

/-- ITS FALSE NEIGHBOUR: 'it returns false'. Refute it at one input. -/
def lawS930019AFlatWrong : ChangeSpec := { name := "lawS930019AFlat", fn := fun _ => fun
  | [d] => { results := [.lit (.bool false)], args := [d] }
  | _ => none }
def LawS930019AFlatWrongFalsely : Prop := lawS930019AFlatRow.holds Ydjm.pinned (OpenSpec.ofChange lawS930019AFlatWrong)

/-- 'textwrap.LawS930019ARecut': WHATEVER THE INPUT: true; the input reads as it did. -/
def lawS930019ARecutSpec : ChangeSpec := { name := "lawS930019ARecut", fn := fun _ => fun
  | [d1, d2] => { results := [.lit (.bool true)], args := [d1, d2] }
  | _ => none }
def lawS930019ARecutRow : OpenClaim := { program := "ymbrdj", sum := "9802a75ad29c3f55526528763de835f836ad175868343436c6625a04662c2e3c", func := "example.com/own/textwrap.LawS930019ARecut", spec := "lawS930019ARecut", apart := false }
def LawS930019ARecutSaid : Prop := lawS930019ARecutRow.holds Ydjm.pinned (OpenSpec.ofChange lawS930019ARecutSpec)

/-- ITS FALSE NEIGHBOUR: 'it returns false'. Refute it at one input. -/
def lawS930019ARecutWrong : ChangeSpec := { name := "lawS930019ARecut", fn := fun _ => fun
  | [d1, d2] => { results := [.lit (.bool false)], args := [d1, d2] }
  | _ => none }
def LawS930019ARecutWrongFalsely : Prop := lawS930019ARecutRow.holds Ydjm.pinned (OpenSpec.ofChange lawS930019ARecutWrong)

/-- 'textwrap.LawS930019AFresh': WHATEVER THE INPUT: true; the input reads as it did. -/
def lawS930019AFreshSpec : ChangeSpec := { name := "lawS930019AFresh", fn := fun _ => fun
  | [d] => { results := [.lit (.bool true)], args := [d] }
  | _ => none }
def lawS930019AFreshRow : OpenClaim := { program := "ymbrdj", sum := "9802a75ad29c3f55526528763de835f836ad175868343436c6625a04662c2e3c", func := "example.com/own/textwrap.LawS930019AFresh", spec := "lawS930019AFresh", apart := false }
def LawS930019AFreshSaid : Prop := lawS930019AFreshRow.holds Ydjm.pinned (OpenSpec.ofChange lawS930019AFreshSpec)

/-- ITS FALSE NEIGHBOUR: 'it returns false'. Refute it at one input. -/
def lawS930019AFreshWrong : ChangeSpec := { name := "lawS930019AFresh", fn := fun _ => fun
  | [d] => { results := [.lit (.bool false)], args := [d] }
  | _ => none }
def LawS930019AFreshWrongFalsely : Prop := lawS930019AFreshRow.holds Ydjm.pinned (OpenSpec.ofChange lawS930019AFreshWrong)

/-- 'textwrap.LawS930019BExact': WHATEVER THE INPUT: true; the input reads as it did. -/
def lawS930019BExactSpec : ChangeSpec := { name := "lawS930019BExact", fn := fun _ => fun
  | [d1, d2] => { results := [.lit (.bool true)], args := [d1, d2] }
  | _ => none }
def lawS930019BExactRow : OpenClaim := { program := "ymbrdj", sum := "9802a75ad29c3f55526528763de835f836ad175868343436c6625a04662c2e3c", func := "example.com/own/textwrap.LawS930019BExact", spec := "lawS930019BExact", apart := false }
def LawS930019BExactSaid : Prop := lawS930019BExactRow.holds Ydjm.pinned (OpenSpec.ofChange lawS930019BExactSpec)

/-- ITS FALSE NEIGHBOUR: 'it returns false'. Refute it at one input. -/
def lawS930019BExactWrong : ChangeSpec := { name := "lawS930019BExact", fn := fun _ => fun
  | [d1, d2] => { results := [.lit (.bool false)], args := [d1, d2] }
  | _ => none }
def LawS930019BExactWrongFalsely : Prop := lawS930019BExactRow.holds Ydjm.pinned (OpenSpec.ofChange lawS930019BExactWrong)

/-- 'textwrap.LawS930019BVerdict': WHATEVER THE INPUT: true; the input reads as it did. -/
def lawS930019BVerdictSpec : ChangeSpec := { name := "lawS930019BVerdict", fn := fun _ => fun
  | [d1, d2, d3, d4] => { results := [.lit (.bool true)], args := [d1, d2, d3, d4] }
  | _ => none }
def lawS930019BVerdictRow : OpenClaim := { program := "ymbrdj", sum := "9802a75ad29c3f55526528763de835f836ad175868343436c6625a04662c2e3c", func := "example.com/own/textwrap.LawS930019BVerdict", spec := "lawS930019BVerdict", apart := false }
def LawS930019BVerdictSaid : Prop := lawS930019BVerdictRow.holds Ydjm.pinned (OpenSpec.ofChange lawS930019BVerdictSpec)

/-- ITS FALSE NEIGHBOUR: 'it returns false'. Refute it at one input. -/
def lawS930019BVerdictWrong : ChangeSpec := { name := "lawS930019BVerdict", fn := fun _ => fun
  | [d1, d2, d3, d4] => { results := [.lit (.bool false)], args := [d1, d2, d3, d4] }
  | _ => none }
def LawS930019BVerdictWrongFalsely : Prop := lawS930019BVerdictRow.holds Ydjm.pinned (OpenSpec.ofChange lawS930019BVerdictWrong)

/-- 'textwrap.LawS930019BTight': WHATEVER THE INPUT: true; the input reads as it did. -/
def lawS930019BTightSpec : ChangeSpec := { name := "lawS930019BTight", fn := fun _ => fun
  | [d] => { results := [.lit (.bool true)], args := [d] }
  | _ => none }
def lawS930019BTightRow : OpenClaim := { program := "ymbrdj", sum := "9802a75ad29c3f55526528763de835f836ad175868343436c6625a04662c2e3c", func := "example.com/own/textwrap.LawS930019BTight", spec := "lawS930019BTight", apart := false }
def LawS930019BTightSaid : Prop := lawS930019BTightRow.holds Ydjm.pinned (OpenSpec.ofChange lawS930019BTightSpec)

/-- ITS FALSE NEIGHBOUR: 'it returns false'. Refute it at one input. -/
def lawS930019BTightWrong : ChangeSpec := { name := "lawS930019BTight", fn := fun _ => fun
  | [d] => { results := [.lit (.bool false)], args := [d] }
  | _ => none }
def LawS930019BTightWrongFalsely : Prop := lawS930019BTightRow.holds Ydjm.pinned (OpenSpec.ofChange lawS930019BTightWrong)

/-- 'textwrap.LawS930019CExact': WHATEVER THE INPUT: true; the input reads as it did. -/
def lawS930019CExactSpec : ChangeSpec := { name := "lawS930019CExact", fn := fun _ => fun
  | [d1, d2] => { results := [.lit (.bool true)], args := [d1, d2] }
  | _ => none }
def lawS930019CExactRow : OpenClaim := { program := "ymbrdj", sum := "9802a75ad29c3f55526528763de835f836ad175868343436c6625a04662c2e3c", func := "example.com/own/textwrap.LawS930019CExact", spec := "lawS930019CExact", apart := false }
def LawS930019CExactSaid : Prop := lawS930019CExactRow.holds Ydjm.pinned (OpenSpec.ofChange lawS930019CExactSpec)

/-- ITS FALSE NEIGHBOUR: 'it returns false'. Refute it at one input. -/
def lawS930019CExactWrong : ChangeSpec := { name := "lawS930019CExact", fn := fun _ => fun
  | [d1, d2] => { results := [.lit (.bool false)], args := [d1, d2] }
  | _ => none }
def LawS930019CExactWrongFalsely : Prop := lawS930019CExactRow.holds Ydjm.pinned (OpenSpec.ofChange lawS930019CExactWrong)

/-- 'textwrap.LawS930019CSpare': WHATEVER THE INPUT: true; the input reads as it did. -/
def lawS930019CSpareSpec : ChangeSpec := { name := "lawS930019CSpare", fn := fun _ => fun
  | [d1, d2, d3] => { results := [.lit (.bool true)], args := [d1, d2, d3] }
  | _ => none }
def lawS930019CSpareRow : OpenClaim := { program := "ymbrdj", sum := "9802a75ad29c3f55526528763de835f836ad175868343436c6625a04662c2e3c", func := "example.com/own/textwrap.LawS930019CSpare", spec := "lawS930019CSpare", apart := false }
def LawS930019CSpareSaid : Prop := lawS930019CSpareRow.holds Ydjm.pinned (OpenSpec.ofChange lawS930019CSpareSpec)

/-- ITS FALSE NEIGHBOUR: 'it returns false'. Refute it at one input. -/
def lawS930019CSpareWrong : ChangeSpec := { name := "lawS930019CSpare", fn := fun _ => fun
  | [d1, d2, d3] => { results := [.lit (.bool false)], args := [d1, d2, d3] }
  | _ => none }
def LawS930019CSpareWrongFalsely : Prop := lawS930019CSpareRow.holds Ydjm.pinned (OpenSpec.ofChange lawS930019CSpareWrong)

/-- 'textwrap.LawS930019CSplit': WHATEVER THE INPUT: true; the input reads as it did. -/
def lawS930019CSplitSpec : ChangeSpec := { name := "lawS930019CSplit", fn := fun _ => fun
  | [d1, d2, d3] => { results := [.lit (.bool true)], args := [d1, d2, d3] }
  | _ => none }
def lawS930019CSplitRow : OpenClaim := { program := "ymbrdj", sum := "9802a75ad29c3f55526528763de835f836ad175868343436c6625a04662c2e3c", func := "example.com/own/textwrap.LawS930019CSplit", spec := "lawS930019CSplit", apart := false }
def LawS930019CSplitSaid : Prop := lawS930019CSplitRow.holds Ydjm.pinned (OpenSpec.ofChange lawS930019CSplitSpec)

/-- ITS FALSE NEIGHBOUR: 'it returns false'. Refute it at one input. -/
def lawS930019CSplitWrong : ChangeSpec := { name := "lawS930019CSplit", fn := fun _ => fun
  | [d1, d2, d3] => { results := [.lit (.bool false)], args := [d1, d2, d3] }
  | _ => none }
def LawS930019CSplitWrongFalsely : Prop := lawS930019CSplitRow.holds Ydjm.pinned (OpenSpec.ofChange lawS930019CSplitWrong)

/-- 'textwrap.LawS930019DExact': WHATEVER THE INPUT: true; the input reads as it did. -/
def lawS930019DExactSpec : ChangeSpec := { name := "lawS930019DExact", fn := fun _ => fun
  | [d] => { results := [.lit (.bool true)], args := [d] }
  | _ => none }
def lawS930019DExactRow : OpenClaim := { program := "ymbrdj", sum := "9802a75ad29c3f55526528763de835f836ad175868343436c6625a04662c2e3c", func := "example.com/own/textwrap.LawS930019DExact", spec := "lawS930019DExact", apart := false }
def LawS930019DExactSaid : Prop := lawS930019DExactRow.holds Ydjm.pinned (OpenSpec.ofChange lawS930019DExactSpec)

/-- ITS FALSE NEIGHBOUR: 'it returns false'. Refute it at one input. -/
def lawS930019DExactWrong : ChangeSpec := { name := "lawS930019DExact", fn := fun _ => fun
  | [d] => { results := [.lit (.bool false)], args := [d] }
  | _ => none }
def LawS930019DExactWrongFalsely : Prop := lawS930019DExactRow.holds Ydjm.pinned (OpenSpec.ofChange lawS930019DExactWrong)

/-- 'textwrap.LawS930019DConcat': WHATEVER THE INPUT: true; the input reads as it did. -/
def lawS930019DConcatSpec : ChangeSpec := { name := "lawS930019DConcat", fn := fun _ => fun
  | [d1, d2] => { results := [.lit (.bool true)], args := [d1, d2] }
  | _ => none }
def lawS930019DConcatRow : OpenClaim := { program := "ymbrdj", sum := "9802a75ad29c3f55526528763de835f836ad175868343436c6625a04662c2e3c", func := "example.com/own/textwrap.LawS930019DConcat", spec := "lawS930019DConcat", apart := false }
def LawS930019DConcatSaid : Prop := lawS930019DConcatRow.holds Ydjm.pinned (OpenSpec.ofChange lawS930019DConcatSpec)

/-- ITS FALSE NEIGHBOUR: 'it returns false'. Refute it at one input. -/
def lawS930019DConcatWrong : ChangeSpec := { name := "lawS930019DConcat", fn := fun _ => fun
  | [d1, d2] => { results := [.lit (.bool false)], args := [d1, d2] }
  | _ => none }
def LawS930019DConcatWrongFalsely : Prop := lawS930019DConcatRow.holds Ydjm.pinned (OpenSpec.ofChange lawS930019DConcatWrong)

/-- 'textwrap.LawS930019DSeparated': WHATEVER THE INPUT: true; the input reads as it did. -/
def lawS930019DSeparatedSpec : ChangeSpec := { name := "lawS930019DSeparated", fn := fun _ => fun
  | [d1, d2, d3] => { results := [.lit (.bool true)], args := [d1, d2, d3] }
  | _ => none }
def lawS930019DSeparatedRow : OpenClaim := { program := "ymbrdj", sum := "9802a75ad29c3f55526528763de835f836ad175868343436c6625a04662c2e3c", func := "example.com/own/textwrap.LawS930019DSeparated", spec := "lawS930019DSeparated", apart := false }
def LawS930019DSeparatedSaid : Prop := lawS930019DSeparatedRow.holds Ydjm.pinned (OpenSpec.ofChange lawS930019DSeparatedSpec)

/-- ITS FALSE NEIGHBOUR: 'it returns false'. Refute it at one input. -/
def lawS930019DSeparatedWrong : ChangeSpec := { name := "lawS930019DSeparated", fn := fun _ => fun
  | [d1, d2, d3] => { results := [.lit (.bool false)], args := [d1, d2, d3] }
  | _ => none }
def LawS930019DSeparatedWrongFalsely : Prop := lawS930019DSeparatedRow.holds Ydjm.pinned (OpenSpec.ofChange lawS930019DSeparatedWrong)

end Rows
end Go.Proofs.Ymbrdj
