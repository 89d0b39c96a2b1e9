/-
  No cell of these rows narrows 'for every input' (looked for: loops, veiled, ifaces, maps, wideKeys, modest, calm, conditions, laid).
  DERIVED. THE GIVEN ROWS OF THIS SEAT. 12 by the template 'for every input the law returns true; each argument reads behind the call as it read before'; 0 by the template 'total and deterministic' (their statements: YmbrdkTotals.lean).
  GIVEN WITH THE SEED: the statements are not yours to turn. If you find one false, say at which input.
  Laid BY PROGRAM, IN A SANDBOX (cutbox-rows.mjs): the forced cells as the released guide's own fill.sh prints them over the translation ae3fd9b87fd39f00… (all of the seat's roots in one cut). By AI agents, Wed Nov 11 2026. No macro, syntax, notation, axiom, sorry.
-/
import Derived.Test.YmbrdkChecked
import GoSem.Claim
import GoSem.ClaimJoined
import GoSem.ClaimMapViews
import Derived.JoinedTies
import Derived.KernelRfl
namespace Go.Proofs.Ymbrdk
/- THE CELL 'sum', in the pinned program and in every row, IS THE sha256 OF THE DUMP (.gsa) THAT YmbrdkProg.lean LOADS. Nothing in Lean hashes anything: it is a label: what it is worth is what the hold of that sum in a sandbox is worth. -/
noncomputable def Ydkm.pinned : Pinned := { name := "ymbrdk", sum := "ae3fd9b87fd39f00e12d215323dc6d3d0ea48a0c2bd2858c6249454dff40078b", checked := Ydkm.checked }
namespace Rows
def none {H : Type} : Left H := { results := [], args := [] }

/-- 'textwrap.LawS930019EExact': WHATEVER THE INPUT: true; the input reads as it did. -/
def lawS930019EExactSpec : ChangeSpec := { name := "lawS930019EExact", fn := fun _ => fun
  | [d1, d2] => { results := [.lit (.bool true)], args := [d1, d2] }
  | _ => none }
def lawS930019EExactRow : OpenClaim := { program := "ymbrdk", sum := "ae3fd9b87fd39f00e12d215323dc6d3d0ea48a0c2bd2858c6249454dff40078b", func := "example.com/own/textwrap.LawS930019EExact", spec := "lawS930019EExact", apart := false }
def LawS930019EExactSaid : Prop := lawS930019EExactRow.holds Ydkm.pinned (OpenSpec.ofChange lawS930019EExactSpec)

/-- ITS FALSE NEIGHBOUR: 'it returns false'. Refute it at one input. -/
def lawS930019EExactWrong : ChangeSpec := { name := "lawS930019EExact", fn := fun _ => fun
  | [d1, d2] => { results := [.lit (.bool false)], args := [d1, d2] }
  | _ => none }
def LawS930019EExactWrongFalsely : Prop := lawS930019EExactRow.holds Ydkm.pinned (OpenSpec.ofChange lawS930019EExactWrong)

/-- 'textwrap.LawS930019ESlack': WHATEVER THE INPUT: true; the input reads as it did. -/
def lawS930019ESlackSpec : ChangeSpec := { name := "lawS930019ESlack", fn := fun _ => fun
  | [d1, d2] => { results := [.lit (.bool true)], args := [d1, d2] }
  | _ => none }
def lawS930019ESlackRow : OpenClaim := { program := "ymbrdk", sum := "ae3fd9b87fd39f00e12d215323dc6d3d0ea48a0c2bd2858c6249454dff40078b", func := "example.com/own/textwrap.LawS930019ESlack", spec := "lawS930019ESlack", apart := false }
def LawS930019ESlackSaid : Prop := lawS930019ESlackRow.holds Ydkm.pinned (OpenSpec.ofChange lawS930019ESlackSpec)

/-- ITS FALSE NEIGHBOUR: 'it returns false'. Refute it at one input. -/
def lawS930019ESlackWrong : ChangeSpec := { name := "lawS930019ESlack", fn := fun _ => fun
  | [d1, d2] => { results := [.lit (.bool false)], args := [d1, d2] }
  | _ => none }
def LawS930019ESlackWrongFalsely : Prop := lawS930019ESlackRow.holds Ydkm.pinned (OpenSpec.ofChange lawS930019ESlackWrong)

/-- 'textwrap.LawS930019ESplit': WHATEVER THE INPUT: true; the input reads as it did. -/
def lawS930019ESplitSpec : ChangeSpec := { name := "lawS930019ESplit", fn := fun _ => fun
  | [d1, d2, d3] => { results := [.lit (.bool true)], args := [d1, d2, d3] }
  | _ => none }
def lawS930019ESplitRow : OpenClaim := { program := "ymbrdk", sum := "ae3fd9b87fd39f00e12d215323dc6d3d0ea48a0c2bd2858c6249454dff40078b", func := "example.com/own/textwrap.LawS930019ESplit", spec := "lawS930019ESplit", apart := false }
def LawS930019ESplitSaid : Prop := lawS930019ESplitRow.holds Ydkm.pinned (OpenSpec.ofChange lawS930019ESplitSpec)

/-- ITS FALSE NEIGHBOUR: 'it returns false'. Refute it at one input. -/
def lawS930019ESplitWrong : ChangeSpec := { name := "lawS930019ESplit", fn := fun _ => fun
  | [d1, d2, d3] => { results := [.lit (.bool false)], args := [d1, d2, d3] }
  | _ => none }
def LawS930019ESplitWrongFalsely : Prop := lawS930019ESplitRow.holds Ydkm.pinned (OpenSpec.ofChange lawS930019ESplitWrong)

/-- 'textwrap.LawS930019FLines': WHATEVER THE INPUT: true; the input reads as it did. -/
def lawS930019FLinesSpec : ChangeSpec := { name := "lawS930019FLines", fn := fun _ => fun
  | [d1, d2] => { results := [.lit (.bool true)], args := [d1, d2] }
  | _ => none }
def lawS930019FLinesRow : OpenClaim := { program := "ymbrdk", sum := "ae3fd9b87fd39f00e12d215323dc6d3d0ea48a0c2bd2858c6249454dff40078b", func := "example.com/own/textwrap.LawS930019FLines", spec := "lawS930019FLines", apart := false }
def LawS930019FLinesSaid : Prop := lawS930019FLinesRow.holds Ydkm.pinned (OpenSpec.ofChange lawS930019FLinesSpec)

/-- ITS FALSE NEIGHBOUR: 'it returns false'. Refute it at one input. -/
def lawS930019FLinesWrong : ChangeSpec := { name := "lawS930019FLines", fn := fun _ => fun
  | [d1, d2] => { results := [.lit (.bool false)], args := [d1, d2] }
  | _ => none }
def LawS930019FLinesWrongFalsely : Prop := lawS930019FLinesRow.holds Ydkm.pinned (OpenSpec.ofChange lawS930019FLinesWrong)

/-- 'textwrap.LawS930019FGreedy': WHATEVER THE INPUT: true; the input reads as it did. -/
def lawS930019FGreedySpec : ChangeSpec := { name := "lawS930019FGreedy", fn := fun _ => fun
  | [d1, d2] => { results := [.lit (.bool true)], args := [d1, d2] }
  | _ => none }
def lawS930019FGreedyRow : OpenClaim := { program := "ymbrdk", sum := "ae3fd9b87fd39f00e12d215323dc6d3d0ea48a0c2bd2858c6249454dff40078b", func := "example.com/own/textwrap.LawS930019FGreedy", spec := "lawS930019FGreedy", apart := false }
def LawS930019FGreedySaid : Prop := lawS930019FGreedyRow.holds Ydkm.pinned (OpenSpec.ofChange lawS930019FGreedySpec)

/-- ITS FALSE NEIGHBOUR: 'it returns false'. Refute it at one input. -/
def lawS930019FGreedyWrong : ChangeSpec := { name := "lawS930019FGreedy", fn := fun _ => fun
  | [d1, d2] => { results := [.lit (.bool false)], args := [d1, d2] }
  | _ => none }
def LawS930019FGreedyWrongFalsely : Prop := lawS930019FGreedyRow.holds Ydkm.pinned (OpenSpec.ofChange lawS930019FGreedyWrong)

/-- 'textwrap.LawS930019FRest': WHATEVER THE INPUT: true; the input reads as it did. -/
def lawS930019FRestSpec : ChangeSpec := { name := "lawS930019FRest", fn := fun _ => fun
  | [d1, d2] => { results := [.lit (.bool true)], args := [d1, d2] }
  | _ => none }
def lawS930019FRestRow : OpenClaim := { program := "ymbrdk", sum := "ae3fd9b87fd39f00e12d215323dc6d3d0ea48a0c2bd2858c6249454dff40078b", func := "example.com/own/textwrap.LawS930019FRest", spec := "lawS930019FRest", apart := false }
def LawS930019FRestSaid : Prop := lawS930019FRestRow.holds Ydkm.pinned (OpenSpec.ofChange lawS930019FRestSpec)

/-- ITS FALSE NEIGHBOUR: 'it returns false'. Refute it at one input. -/
def lawS930019FRestWrong : ChangeSpec := { name := "lawS930019FRest", fn := fun _ => fun
  | [d1, d2] => { results := [.lit (.bool false)], args := [d1, d2] }
  | _ => none }
def LawS930019FRestWrongFalsely : Prop := lawS930019FRestRow.holds Ydkm.pinned (OpenSpec.ofChange lawS930019FRestWrong)

/-- 'textwrap.LawS930019GExact': WHATEVER THE INPUT: true; the input reads as it did. -/
def lawS930019GExactSpec : ChangeSpec := { name := "lawS930019GExact", fn := fun _ => fun
  | [d1, d2] => { results := [.lit (.bool true)], args := [d1, d2] }
  | _ => none }
def lawS930019GExactRow : OpenClaim := { program := "ymbrdk", sum := "ae3fd9b87fd39f00e12d215323dc6d3d0ea48a0c2bd2858c6249454dff40078b", func := "example.com/own/textwrap.LawS930019GExact", spec := "lawS930019GExact", apart := false }
def LawS930019GExactSaid : Prop := lawS930019GExactRow.holds Ydkm.pinned (OpenSpec.ofChange lawS930019GExactSpec)

/-- ITS FALSE NEIGHBOUR: 'it returns false'. Refute it at one input. -/
def lawS930019GExactWrong : ChangeSpec := { name := "lawS930019GExact", fn := fun _ => fun
  | [d1, d2] => { results := [.lit (.bool false)], args := [d1, d2] }
  | _ => none }
def LawS930019GExactWrongFalsely : Prop := lawS930019GExactRow.holds Ydkm.pinned (OpenSpec.ofChange lawS930019GExactWrong)

/-- 'textwrap.LawS930019GRoundTrip': WHATEVER THE INPUT: true; the input reads as it did. -/
def lawS930019GRoundTripSpec : ChangeSpec := { name := "lawS930019GRoundTrip", fn := fun _ => fun
  | [d1, d2] => { results := [.lit (.bool true)], args := [d1, d2] }
  | _ => none }
def lawS930019GRoundTripRow : OpenClaim := { program := "ymbrdk", sum := "ae3fd9b87fd39f00e12d215323dc6d3d0ea48a0c2bd2858c6249454dff40078b", func := "example.com/own/textwrap.LawS930019GRoundTrip", spec := "lawS930019GRoundTrip", apart := false }
def LawS930019GRoundTripSaid : Prop := lawS930019GRoundTripRow.holds Ydkm.pinned (OpenSpec.ofChange lawS930019GRoundTripSpec)

/-- ITS FALSE NEIGHBOUR: 'it returns false'. Refute it at one input. -/
def lawS930019GRoundTripWrong : ChangeSpec := { name := "lawS930019GRoundTrip", fn := fun _ => fun
  | [d1, d2] => { results := [.lit (.bool false)], args := [d1, d2] }
  | _ => none }
def LawS930019GRoundTripWrongFalsely : Prop := lawS930019GRoundTripRow.holds Ydkm.pinned (OpenSpec.ofChange lawS930019GRoundTripWrong)

/-- 'textwrap.LawS930019GConcat': WHATEVER THE INPUT: true; the input reads as it did. -/
def lawS930019GConcatSpec : ChangeSpec := { name := "lawS930019GConcat", fn := fun _ => fun
  | [d1, d2] => { results := [.lit (.bool true)], args := [d1, d2] }
  | _ => none }
def lawS930019GConcatRow : OpenClaim := { program := "ymbrdk", sum := "ae3fd9b87fd39f00e12d215323dc6d3d0ea48a0c2bd2858c6249454dff40078b", func := "example.com/own/textwrap.LawS930019GConcat", spec := "lawS930019GConcat", apart := false }
def LawS930019GConcatSaid : Prop := lawS930019GConcatRow.holds Ydkm.pinned (OpenSpec.ofChange lawS930019GConcatSpec)

/-- ITS FALSE NEIGHBOUR: 'it returns false'. Refute it at one input. -/
def lawS930019GConcatWrong : ChangeSpec := { name := "lawS930019GConcat", fn := fun _ => fun
  | [d1, d2] => { results := [.lit (.bool false)], args := [d1, d2] }
  | _ => none }
def LawS930019GConcatWrongFalsely : Prop := lawS930019GConcatRow.holds Ydkm.pinned (OpenSpec.ofChange lawS930019GConcatWrong)

/-- 'textwrap.LawS930019HExact': WHATEVER THE INPUT: true; the input reads as it did. -/
def lawS930019HExactSpec : ChangeSpec := { name := "lawS930019HExact", fn := fun _ => fun
  | [d] => { results := [.lit (.bool true)], args := [d] }
  | _ => none }
def lawS930019HExactRow : OpenClaim := { program := "ymbrdk", sum := "ae3fd9b87fd39f00e12d215323dc6d3d0ea48a0c2bd2858c6249454dff40078b", func := "example.com/own/textwrap.LawS930019HExact", spec := "lawS930019HExact", apart := false }
def LawS930019HExactSaid : Prop := lawS930019HExactRow.holds Ydkm.pinned (OpenSpec.ofChange lawS930019HExactSpec)

/-- ITS FALSE NEIGHBOUR: 'it returns false'. Refute it at one input. -/
def lawS930019HExactWrong : ChangeSpec := { name := "lawS930019HExact", fn := fun _ => fun
  | [d] => { results := [.lit (.bool false)], args := [d] }
  | _ => none }
def LawS930019HExactWrongFalsely : Prop := lawS930019HExactRow.holds Ydkm.pinned (OpenSpec.ofChange lawS930019HExactWrong)

/-- 'textwrap.LawS930019HRoundTrip': WHATEVER THE INPUT: true; the input reads as it did. -/
def lawS930019HRoundTripSpec : ChangeSpec := { name := "lawS930019HRoundTrip", fn := fun _ => fun
  | [d1, d2, d3] => { results := [.lit (.bool true)], args := [d1, d2, d3] }
  | _ => none }
def lawS930019HRoundTripRow : OpenClaim := { program := "ymbrdk", sum := "ae3fd9b87fd39f00e12d215323dc6d3d0ea48a0c2bd2858c6249454dff40078b", func := "example.com/own/textwrap.LawS930019HRoundTrip", spec := "lawS930019HRoundTrip", apart := false }
def LawS930019HRoundTripSaid : Prop := lawS930019HRoundTripRow.holds Ydkm.pinned (OpenSpec.ofChange lawS930019HRoundTripSpec)

/-- ITS FALSE NEIGHBOUR: 'it returns false'. Refute it at one input. -/
def lawS930019HRoundTripWrong : ChangeSpec := { name := "lawS930019HRoundTrip", fn := fun _ => fun
  | [d1, d2, d3] => { results := [.lit (.bool false)], args := [d1, d2, d3] }
  | _ => none }
def LawS930019HRoundTripWrongFalsely : Prop := lawS930019HRoundTripRow.holds Ydkm.pinned (OpenSpec.ofChange lawS930019HRoundTripWrong)

/-- 'textwrap.LawS930019HConcat': WHATEVER THE INPUT: true; the input reads as it did. -/
def lawS930019HConcatSpec : ChangeSpec := { name := "lawS930019HConcat", fn := fun _ => fun
  | [d1, d2, d3] => { results := [.lit (.bool true)], args := [d1, d2, d3] }
  | _ => none }
def lawS930019HConcatRow : OpenClaim := { program := "ymbrdk", sum := "ae3fd9b87fd39f00e12d215323dc6d3d0ea48a0c2bd2858c6249454dff40078b", func := "example.com/own/textwrap.LawS930019HConcat", spec := "lawS930019HConcat", apart := false }
def LawS930019HConcatSaid : Prop := lawS930019HConcatRow.holds Ydkm.pinned (OpenSpec.ofChange lawS930019HConcatSpec)

/-- ITS FALSE NEIGHBOUR: 'it returns false'. Refute it at one input. -/
def lawS930019HConcatWrong : ChangeSpec := { name := "lawS930019HConcat", fn := fun _ => fun
  | [d1, d2, d3] => { results := [.lit (.bool false)], args := [d1, d2, d3] }
  | _ => none }
def LawS930019HConcatWrongFalsely : Prop := lawS930019HConcatRow.holds Ydkm.pinned (OpenSpec.ofChange lawS930019HConcatWrong)

end Rows
end Go.Proofs.Ymbrdk
