/-
  No cell of these rows narrows 'for every input' (looked for: loops, veiled, ifaces, maps, wideKeys, modest, calm, conditions, laid).
  DERIVED. THE GIVEN ROWS OF THIS SEAT. 12 by the template 'for every input the law returns true; each argument reads behind the call as it read before'; 0 by the template 'total and deterministic' (their statements: YmbrdlTotals.lean).
  GIVEN WITH THE SEED: the statements are not yours to turn. If you find one false, say at which input.
  Laid BY PROGRAM, IN A SANDBOX (cutbox-rows.mjs): the forced cells as the released guide's own fill.sh prints them over the translation 5d4bd53c8046484d… (all of the seat's roots in one cut). By AI agents, Wed Nov 11 2026. No macro, syntax, notation, axiom, sorry.
-/
import Derived.Test.YmbrdlChecked
import GoSem.Claim
import GoSem.ClaimJoined
import GoSem.ClaimMapViews
import Derived.JoinedTies
import Derived.KernelRfl
namespace Go.Proofs.Ymbrdl
/- THE CELL 'sum', in the pinned program and in every row, IS THE sha256 OF THE DUMP (.gsa) THAT YmbrdlProg.lean LOADS. Nothing in Lean hashes anything: it is a label: what it is worth is what the hold of that sum in a sandbox is worth. -/
noncomputable def Ydlm.pinned : Pinned := { name := "ymbrdl", sum := "5d4bd53c8046484dbf9afac46200971a7df99abc2f9a9a8a0db5d859780b804c", checked := Ydlm.checked }
namespace Rows
def none {H : Type} : Left H := { results := [], args := [] }

/-- 'textwrap.LawS930019IExact': WHATEVER THE INPUT: true; the input reads as it did. -/
def lawS930019IExactSpec : ChangeSpec := { name := "lawS930019IExact", fn := fun _ => fun
  | [d] => { results := [.lit (.bool true)], args := [d] }
  | _ => none }
def lawS930019IExactRow : OpenClaim := { program := "ymbrdl", sum := "5d4bd53c8046484dbf9afac46200971a7df99abc2f9a9a8a0db5d859780b804c", func := "example.com/own/textwrap.LawS930019IExact", spec := "lawS930019IExact", apart := false }
def LawS930019IExactSaid : Prop := lawS930019IExactRow.holds Ydlm.pinned (OpenSpec.ofChange lawS930019IExactSpec)

/-- ITS FALSE NEIGHBOUR: 'it returns false'. Refute it at one input. -/
def lawS930019IExactWrong : ChangeSpec := { name := "lawS930019IExact", fn := fun _ => fun
  | [d] => { results := [.lit (.bool false)], args := [d] }
  | _ => none }
def LawS930019IExactWrongFalsely : Prop := lawS930019IExactRow.holds Ydlm.pinned (OpenSpec.ofChange lawS930019IExactWrong)

/-- 'textwrap.LawS930019IRoundTrip': WHATEVER THE INPUT: true; the input reads as it did. -/
def lawS930019IRoundTripSpec : ChangeSpec := { name := "lawS930019IRoundTrip", fn := fun _ => fun
  | [d] => { results := [.lit (.bool true)], args := [d] }
  | _ => none }
def lawS930019IRoundTripRow : OpenClaim := { program := "ymbrdl", sum := "5d4bd53c8046484dbf9afac46200971a7df99abc2f9a9a8a0db5d859780b804c", func := "example.com/own/textwrap.LawS930019IRoundTrip", spec := "lawS930019IRoundTrip", apart := false }
def LawS930019IRoundTripSaid : Prop := lawS930019IRoundTripRow.holds Ydlm.pinned (OpenSpec.ofChange lawS930019IRoundTripSpec)

/-- ITS FALSE NEIGHBOUR: 'it returns false'. Refute it at one input. -/
def lawS930019IRoundTripWrong : ChangeSpec := { name := "lawS930019IRoundTrip", fn := fun _ => fun
  | [d] => { results := [.lit (.bool false)], args := [d] }
  | _ => none }
def LawS930019IRoundTripWrongFalsely : Prop := lawS930019IRoundTripRow.holds Ydlm.pinned (OpenSpec.ofChange lawS930019IRoundTripWrong)

/-- 'textwrap.LawS930019IConcat': WHATEVER THE INPUT: true; the input reads as it did. -/
def lawS930019IConcatSpec : ChangeSpec := { name := "lawS930019IConcat", fn := fun _ => fun
  | [d1, d2] => { results := [.lit (.bool true)], args := [d1, d2] }
  | _ => none }
def lawS930019IConcatRow : OpenClaim := { program := "ymbrdl", sum := "5d4bd53c8046484dbf9afac46200971a7df99abc2f9a9a8a0db5d859780b804c", func := "example.com/own/textwrap.LawS930019IConcat", spec := "lawS930019IConcat", apart := false }
def LawS930019IConcatSaid : Prop := lawS930019IConcatRow.holds Ydlm.pinned (OpenSpec.ofChange lawS930019IConcatSpec)

/-- ITS FALSE NEIGHBOUR: 'it returns false'. Refute it at one input. -/
def lawS930019IConcatWrong : ChangeSpec := { name := "lawS930019IConcat", fn := fun _ => fun
  | [d1, d2] => { results := [.lit (.bool false)], args := [d1, d2] }
  | _ => none }
def LawS930019IConcatWrongFalsely : Prop := lawS930019IConcatRow.holds Ydlm.pinned (OpenSpec.ofChange lawS930019IConcatWrong)

/-- 'textwrap.LawS930019JExact': WHATEVER THE INPUT: true; the input reads as it did. -/
def lawS930019JExactSpec : ChangeSpec := { name := "lawS930019JExact", fn := fun _ => fun
  | [d1, d2, d3] => { results := [.lit (.bool true)], args := [d1, d2, d3] }
  | _ => none }
def lawS930019JExactRow : OpenClaim := { program := "ymbrdl", sum := "5d4bd53c8046484dbf9afac46200971a7df99abc2f9a9a8a0db5d859780b804c", func := "example.com/own/textwrap.LawS930019JExact", spec := "lawS930019JExact", apart := false }
def LawS930019JExactSaid : Prop := lawS930019JExactRow.holds Ydlm.pinned (OpenSpec.ofChange lawS930019JExactSpec)

/-- ITS FALSE NEIGHBOUR: 'it returns false'. Refute it at one input. -/
def lawS930019JExactWrong : ChangeSpec := { name := "lawS930019JExact", fn := fun _ => fun
  | [d1, d2, d3] => { results := [.lit (.bool false)], args := [d1, d2, d3] }
  | _ => none }
def LawS930019JExactWrongFalsely : Prop := lawS930019JExactRow.holds Ydlm.pinned (OpenSpec.ofChange lawS930019JExactWrong)

/-- 'textwrap.LawS930019JShape': WHATEVER THE INPUT: true; the input reads as it did. -/
def lawS930019JShapeSpec : ChangeSpec := { name := "lawS930019JShape", fn := fun _ => fun
  | [d1, d2, d3] => { results := [.lit (.bool true)], args := [d1, d2, d3] }
  | _ => none }
def lawS930019JShapeRow : OpenClaim := { program := "ymbrdl", sum := "5d4bd53c8046484dbf9afac46200971a7df99abc2f9a9a8a0db5d859780b804c", func := "example.com/own/textwrap.LawS930019JShape", spec := "lawS930019JShape", apart := false }
def LawS930019JShapeSaid : Prop := lawS930019JShapeRow.holds Ydlm.pinned (OpenSpec.ofChange lawS930019JShapeSpec)

/-- ITS FALSE NEIGHBOUR: 'it returns false'. Refute it at one input. -/
def lawS930019JShapeWrong : ChangeSpec := { name := "lawS930019JShape", fn := fun _ => fun
  | [d1, d2, d3] => { results := [.lit (.bool false)], args := [d1, d2, d3] }
  | _ => none }
def LawS930019JShapeWrongFalsely : Prop := lawS930019JShapeRow.holds Ydlm.pinned (OpenSpec.ofChange lawS930019JShapeWrong)

/-- 'textwrap.LawS930019JRefill': WHATEVER THE INPUT: true; the input reads as it did. -/
def lawS930019JRefillSpec : ChangeSpec := { name := "lawS930019JRefill", fn := fun _ => fun
  | [d1, d2, d3, d4] => { results := [.lit (.bool true)], args := [d1, d2, d3, d4] }
  | _ => none }
def lawS930019JRefillRow : OpenClaim := { program := "ymbrdl", sum := "5d4bd53c8046484dbf9afac46200971a7df99abc2f9a9a8a0db5d859780b804c", func := "example.com/own/textwrap.LawS930019JRefill", spec := "lawS930019JRefill", apart := false }
def LawS930019JRefillSaid : Prop := lawS930019JRefillRow.holds Ydlm.pinned (OpenSpec.ofChange lawS930019JRefillSpec)

/-- ITS FALSE NEIGHBOUR: 'it returns false'. Refute it at one input. -/
def lawS930019JRefillWrong : ChangeSpec := { name := "lawS930019JRefill", fn := fun _ => fun
  | [d1, d2, d3, d4] => { results := [.lit (.bool false)], args := [d1, d2, d3, d4] }
  | _ => none }
def LawS930019JRefillWrongFalsely : Prop := lawS930019JRefillRow.holds Ydlm.pinned (OpenSpec.ofChange lawS930019JRefillWrong)

/-- 'textwrap.LawS930019KExact': WHATEVER THE INPUT: true; the input reads as it did. -/
def lawS930019KExactSpec : ChangeSpec := { name := "lawS930019KExact", fn := fun _ => fun
  | [d1, d2] => { results := [.lit (.bool true)], args := [d1, d2] }
  | _ => none }
def lawS930019KExactRow : OpenClaim := { program := "ymbrdl", sum := "5d4bd53c8046484dbf9afac46200971a7df99abc2f9a9a8a0db5d859780b804c", func := "example.com/own/textwrap.LawS930019KExact", spec := "lawS930019KExact", apart := false }
def LawS930019KExactSaid : Prop := lawS930019KExactRow.holds Ydlm.pinned (OpenSpec.ofChange lawS930019KExactSpec)

/-- ITS FALSE NEIGHBOUR: 'it returns false'. Refute it at one input. -/
def lawS930019KExactWrong : ChangeSpec := { name := "lawS930019KExact", fn := fun _ => fun
  | [d1, d2] => { results := [.lit (.bool false)], args := [d1, d2] }
  | _ => none }
def LawS930019KExactWrongFalsely : Prop := lawS930019KExactRow.holds Ydlm.pinned (OpenSpec.ofChange lawS930019KExactWrong)

/-- 'textwrap.LawS930019KTight': WHATEVER THE INPUT: true; the input reads as it did. -/
def lawS930019KTightSpec : ChangeSpec := { name := "lawS930019KTight", fn := fun _ => fun
  | [d1, d2] => { results := [.lit (.bool true)], args := [d1, d2] }
  | _ => none }
def lawS930019KTightRow : OpenClaim := { program := "ymbrdl", sum := "5d4bd53c8046484dbf9afac46200971a7df99abc2f9a9a8a0db5d859780b804c", func := "example.com/own/textwrap.LawS930019KTight", spec := "lawS930019KTight", apart := false }
def LawS930019KTightSaid : Prop := lawS930019KTightRow.holds Ydlm.pinned (OpenSpec.ofChange lawS930019KTightSpec)

/-- ITS FALSE NEIGHBOUR: 'it returns false'. Refute it at one input. -/
def lawS930019KTightWrong : ChangeSpec := { name := "lawS930019KTight", fn := fun _ => fun
  | [d1, d2] => { results := [.lit (.bool false)], args := [d1, d2] }
  | _ => none }
def LawS930019KTightWrongFalsely : Prop := lawS930019KTightRow.holds Ydlm.pinned (OpenSpec.ofChange lawS930019KTightWrong)

/-- 'textwrap.LawS930019KOnly': WHATEVER THE INPUT: true; the input reads as it did. -/
def lawS930019KOnlySpec : ChangeSpec := { name := "lawS930019KOnly", fn := fun _ => fun
  | [d1, d2, d3] => { results := [.lit (.bool true)], args := [d1, d2, d3] }
  | _ => none }
def lawS930019KOnlyRow : OpenClaim := { program := "ymbrdl", sum := "5d4bd53c8046484dbf9afac46200971a7df99abc2f9a9a8a0db5d859780b804c", func := "example.com/own/textwrap.LawS930019KOnly", spec := "lawS930019KOnly", apart := false }
def LawS930019KOnlySaid : Prop := lawS930019KOnlyRow.holds Ydlm.pinned (OpenSpec.ofChange lawS930019KOnlySpec)

/-- ITS FALSE NEIGHBOUR: 'it returns false'. Refute it at one input. -/
def lawS930019KOnlyWrong : ChangeSpec := { name := "lawS930019KOnly", fn := fun _ => fun
  | [d1, d2, d3] => { results := [.lit (.bool false)], args := [d1, d2, d3] }
  | _ => none }
def LawS930019KOnlyWrongFalsely : Prop := lawS930019KOnlyRow.holds Ydlm.pinned (OpenSpec.ofChange lawS930019KOnlyWrong)

/-- 'textwrap.LawS930019LExact': WHATEVER THE INPUT: true; the input reads as it did. -/
def lawS930019LExactSpec : ChangeSpec := { name := "lawS930019LExact", fn := fun _ => fun
  | [d1, d2, d3] => { results := [.lit (.bool true)], args := [d1, d2, d3] }
  | _ => none }
def lawS930019LExactRow : OpenClaim := { program := "ymbrdl", sum := "5d4bd53c8046484dbf9afac46200971a7df99abc2f9a9a8a0db5d859780b804c", func := "example.com/own/textwrap.LawS930019LExact", spec := "lawS930019LExact", apart := false }
def LawS930019LExactSaid : Prop := lawS930019LExactRow.holds Ydlm.pinned (OpenSpec.ofChange lawS930019LExactSpec)

/-- ITS FALSE NEIGHBOUR: 'it returns false'. Refute it at one input. -/
def lawS930019LExactWrong : ChangeSpec := { name := "lawS930019LExact", fn := fun _ => fun
  | [d1, d2, d3] => { results := [.lit (.bool false)], args := [d1, d2, d3] }
  | _ => none }
def LawS930019LExactWrongFalsely : Prop := lawS930019LExactRow.holds Ydlm.pinned (OpenSpec.ofChange lawS930019LExactWrong)

/-- 'textwrap.LawS930019LCenter': WHATEVER THE INPUT: true; the input reads as it did. -/
def lawS930019LCenterSpec : ChangeSpec := { name := "lawS930019LCenter", fn := fun _ => fun
  | [d1, d2] => { results := [.lit (.bool true)], args := [d1, d2] }
  | _ => none }
def lawS930019LCenterRow : OpenClaim := { program := "ymbrdl", sum := "5d4bd53c8046484dbf9afac46200971a7df99abc2f9a9a8a0db5d859780b804c", func := "example.com/own/textwrap.LawS930019LCenter", spec := "lawS930019LCenter", apart := false }
def LawS930019LCenterSaid : Prop := lawS930019LCenterRow.holds Ydlm.pinned (OpenSpec.ofChange lawS930019LCenterSpec)

/-- ITS FALSE NEIGHBOUR: 'it returns false'. Refute it at one input. -/
def lawS930019LCenterWrong : ChangeSpec := { name := "lawS930019LCenter", fn := fun _ => fun
  | [d1, d2] => { results := [.lit (.bool false)], args := [d1, d2] }
  | _ => none }
def LawS930019LCenterWrongFalsely : Prop := lawS930019LCenterRow.holds Ydlm.pinned (OpenSpec.ofChange lawS930019LCenterWrong)

/-- 'textwrap.LawS930019LEdge': WHATEVER THE INPUT: true; the input reads as it did. -/
def lawS930019LEdgeSpec : ChangeSpec := { name := "lawS930019LEdge", fn := fun _ => fun
  | [d1, d2, d3] => { results := [.lit (.bool true)], args := [d1, d2, d3] }
  | _ => none }
def lawS930019LEdgeRow : OpenClaim := { program := "ymbrdl", sum := "5d4bd53c8046484dbf9afac46200971a7df99abc2f9a9a8a0db5d859780b804c", func := "example.com/own/textwrap.LawS930019LEdge", spec := "lawS930019LEdge", apart := false }
def LawS930019LEdgeSaid : Prop := lawS930019LEdgeRow.holds Ydlm.pinned (OpenSpec.ofChange lawS930019LEdgeSpec)

/-- ITS FALSE NEIGHBOUR: 'it returns false'. Refute it at one input. -/
def lawS930019LEdgeWrong : ChangeSpec := { name := "lawS930019LEdge", fn := fun _ => fun
  | [d1, d2, d3] => { results := [.lit (.bool false)], args := [d1, d2, d3] }
  | _ => none }
def LawS930019LEdgeWrongFalsely : Prop := lawS930019LEdgeRow.holds Ydlm.pinned (OpenSpec.ofChange lawS930019LEdgeWrong)

end Rows
end Go.Proofs.Ymbrdl
