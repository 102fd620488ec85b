/-
  No cell of these rows narrows 'for every input' (looked for: loops, veiled, ifaces, maps, wideKeys, modest, calm, conditions, laid).
  DERIVED. THE GIVEN ROWS OF THIS SEAT. 19 by the template 'for every input the law returns true; each argument reads behind the call as it read before'; 0 by the template 'total and deterministic' (their statements: YtgkojedgamglgaaTotals.lean).
  GIVEN WITH THE SEED: the statements are not yours to turn. If you find one false, say at which input.
  Laid BY PROGRAM, IN A SANDBOX (cutbox-rows.mjs): the forced cells as the released guide's own fill.sh prints them over the translation c99d30ca5a8f9e7e… (all of the seat's roots in one cut). By AI agents, Wed Nov 11 2026. No macro, syntax, notation, axiom, sorry.
-/
import Derived.Test.YtgkojedgamglgaaChecked
import GoSem.Claim
import GoSem.ClaimJoined
import GoSem.ClaimMapViews
import Derived.JoinedTies
import Derived.KernelRfl
namespace Go.Proofs.Ytgkojedgamglgaa
/- THE CELL 'sum', in the pinned program and in every row, IS THE sha256 OF THE DUMP (.gsa) THAT YtgkojedgamglgaaProg.lean LOADS. Nothing in Lean hashes anything: it is a label: what it is worth is what the hold of that sum in a sandbox is worth. -/
noncomputable def Try.pinned : Pinned := { name := "ytgkojedgamglgaa", sum := "c99d30ca5a8f9e7ed8a3f7b113c551aa3988855757f3aed45b9308f38df1a85e", checked := Try.checked }
namespace Rows
def none {H : Type} : Left H := { results := [], args := [] }

/-- 'lintellaw13.RedoSize': WHATEVER THE INPUT: true; the input reads as it did. -/
def redoSizeSpec : ChangeSpec := { name := "redoSize", fn := fun _ => fun
  | [d] => { results := [.lit (.bool true)], args := [d] }
  | _ => none }
def redoSizeRow : OpenClaim := { program := "ytgkojedgamglgaa", sum := "c99d30ca5a8f9e7ed8a3f7b113c551aa3988855757f3aed45b9308f38df1a85e", func := "lintel/lintellaw13.RedoSize", spec := "redoSize", unfollowed := true, recurses := true, apart := false }
def RedoSizeSaid : Prop := redoSizeRow.holds Try.pinned (OpenSpec.ofChange redoSizeSpec)

/-- ITS FALSE NEIGHBOUR: 'it returns false'. Refute it at one input. -/
def redoSizeWrong : ChangeSpec := { name := "redoSize", fn := fun _ => fun
  | [d] => { results := [.lit (.bool false)], args := [d] }
  | _ => none }
def RedoSizeWrongFalsely : Prop := redoSizeRow.holds Try.pinned (OpenSpec.ofChange redoSizeWrong)

/-- 'lintellaw7.HeadKnown': WHATEVER THE INPUT: true; the input reads as it did. -/
def headKnownSpec : ChangeSpec := { name := "headKnown", fn := fun _ => fun
  | [] => { results := [.lit (.bool true)], args := [] }
  | _ => none }
def headKnownRow : OpenClaim := { program := "ytgkojedgamglgaa", sum := "c99d30ca5a8f9e7ed8a3f7b113c551aa3988855757f3aed45b9308f38df1a85e", func := "lintel/lintellaw7.HeadKnown", spec := "headKnown", apart := false }
def HeadKnownSaid : Prop := headKnownRow.holds Try.pinned (OpenSpec.ofChange headKnownSpec)

/-- ITS FALSE NEIGHBOUR: 'it returns false'. Refute it at one input. -/
def headKnownWrong : ChangeSpec := { name := "headKnown", fn := fun _ => fun
  | [] => { results := [.lit (.bool false)], args := [] }
  | _ => none }
def HeadKnownWrongFalsely : Prop := headKnownRow.holds Try.pinned (OpenSpec.ofChange headKnownWrong)

/-- 'lintellaw7.HeadSays': WHATEVER THE INPUT: true; the input reads as it did. -/
def headSaysSpec : ChangeSpec := { name := "headSays", fn := fun _ => fun
  | [d1, d2, d3, d4] => { results := [.lit (.bool true)], args := [d1, d2, d3, d4] }
  | _ => none }
def headSaysRow : OpenClaim := { program := "ytgkojedgamglgaa", sum := "c99d30ca5a8f9e7ed8a3f7b113c551aa3988855757f3aed45b9308f38df1a85e", func := "lintel/lintellaw7.HeadSays", spec := "headSays", apart := false }
def HeadSaysSaid : Prop := headSaysRow.holds Try.pinned (OpenSpec.ofChange headSaysSpec)

/-- ITS FALSE NEIGHBOUR: 'it returns false'. Refute it at one input. -/
def headSaysWrong : ChangeSpec := { name := "headSays", fn := fun _ => fun
  | [d1, d2, d3, d4] => { results := [.lit (.bool false)], args := [d1, d2, d3, d4] }
  | _ => none }
def HeadSaysWrongFalsely : Prop := headSaysRow.holds Try.pinned (OpenSpec.ofChange headSaysWrong)

/-- 'lintellaw7.HeadOne': WHATEVER THE INPUT: true; the input reads as it did. -/
def headOneSpec : ChangeSpec := { name := "headOne", fn := fun _ => fun
  | [d1, d2, d3] => { results := [.lit (.bool true)], args := [d1, d2, d3] }
  | _ => none }
def headOneRow : OpenClaim := { program := "ytgkojedgamglgaa", sum := "c99d30ca5a8f9e7ed8a3f7b113c551aa3988855757f3aed45b9308f38df1a85e", func := "lintel/lintellaw7.HeadOne", spec := "headOne", apart := false }
def HeadOneSaid : Prop := headOneRow.holds Try.pinned (OpenSpec.ofChange headOneSpec)

/-- ITS FALSE NEIGHBOUR: 'it returns false'. Refute it at one input. -/
def headOneWrong : ChangeSpec := { name := "headOne", fn := fun _ => fun
  | [d1, d2, d3] => { results := [.lit (.bool false)], args := [d1, d2, d3] }
  | _ => none }
def HeadOneWrongFalsely : Prop := headOneRow.holds Try.pinned (OpenSpec.ofChange headOneWrong)

/-- 'lintellaw7.HeadTwo': WHATEVER THE INPUT: true; the input reads as it did. -/
def headTwoSpec : ChangeSpec := { name := "headTwo", fn := fun _ => fun
  | [d1, d2, d3, d4] => { results := [.lit (.bool true)], args := [d1, d2, d3, d4] }
  | _ => none }
def headTwoRow : OpenClaim := { program := "ytgkojedgamglgaa", sum := "c99d30ca5a8f9e7ed8a3f7b113c551aa3988855757f3aed45b9308f38df1a85e", func := "lintel/lintellaw7.HeadTwo", spec := "headTwo", apart := false }
def HeadTwoSaid : Prop := headTwoRow.holds Try.pinned (OpenSpec.ofChange headTwoSpec)

/-- ITS FALSE NEIGHBOUR: 'it returns false'. Refute it at one input. -/
def headTwoWrong : ChangeSpec := { name := "headTwo", fn := fun _ => fun
  | [d1, d2, d3, d4] => { results := [.lit (.bool false)], args := [d1, d2, d3, d4] }
  | _ => none }
def HeadTwoWrongFalsely : Prop := headTwoRow.holds Try.pinned (OpenSpec.ofChange headTwoWrong)

/-- 'lintellaw7.HeadBack': WHATEVER THE INPUT: true; the input reads as it did. -/
def headBackSpec : ChangeSpec := { name := "headBack", fn := fun _ => fun
  | [d] => { results := [.lit (.bool true)], args := [d] }
  | _ => none }
def headBackRow : OpenClaim := { program := "ytgkojedgamglgaa", sum := "c99d30ca5a8f9e7ed8a3f7b113c551aa3988855757f3aed45b9308f38df1a85e", func := "lintel/lintellaw7.HeadBack", spec := "headBack", apart := false }
def HeadBackSaid : Prop := headBackRow.holds Try.pinned (OpenSpec.ofChange headBackSpec)

/-- ITS FALSE NEIGHBOUR: 'it returns false'. Refute it at one input. -/
def headBackWrong : ChangeSpec := { name := "headBack", fn := fun _ => fun
  | [d] => { results := [.lit (.bool false)], args := [d] }
  | _ => none }
def HeadBackWrongFalsely : Prop := headBackRow.holds Try.pinned (OpenSpec.ofChange headBackWrong)

/-- 'lintellaw13.RedoOrder': WHATEVER THE INPUT: true; the input reads as it did. -/
def redoOrderSpec : ChangeSpec := { name := "redoOrder", fn := fun _ => fun
  | [d1, d2] => { results := [.lit (.bool true)], args := [d1, d2] }
  | _ => none }
def redoOrderRow : OpenClaim := { program := "ytgkojedgamglgaa", sum := "c99d30ca5a8f9e7ed8a3f7b113c551aa3988855757f3aed45b9308f38df1a85e", func := "lintel/lintellaw13.RedoOrder", spec := "redoOrder", unfollowed := true, recurses := true, apart := false }
def RedoOrderSaid : Prop := redoOrderRow.holds Try.pinned (OpenSpec.ofChange redoOrderSpec)

/-- ITS FALSE NEIGHBOUR: 'it returns false'. Refute it at one input. -/
def redoOrderWrong : ChangeSpec := { name := "redoOrder", fn := fun _ => fun
  | [d1, d2] => { results := [.lit (.bool false)], args := [d1, d2] }
  | _ => none }
def RedoOrderWrongFalsely : Prop := redoOrderRow.holds Try.pinned (OpenSpec.ofChange redoOrderWrong)

/-- 'lintellaw13.RedoBack': WHATEVER THE INPUT: true; the input reads as it did. -/
def redoBackSpec : ChangeSpec := { name := "redoBack", fn := fun _ => fun
  | [d1, d2, d3, d4, d5, d6] => { results := [.lit (.bool true)], args := [d1, d2, d3, d4, d5, d6] }
  | _ => none }
def redoBackRow : OpenClaim := { program := "ytgkojedgamglgaa", sum := "c99d30ca5a8f9e7ed8a3f7b113c551aa3988855757f3aed45b9308f38df1a85e", func := "lintel/lintellaw13.RedoBack", spec := "redoBack", unfollowed := true, recurses := true, apart := false }
def RedoBackSaid : Prop := redoBackRow.holds Try.pinned (OpenSpec.ofChange redoBackSpec)

/-- ITS FALSE NEIGHBOUR: 'it returns false'. Refute it at one input. -/
def redoBackWrong : ChangeSpec := { name := "redoBack", fn := fun _ => fun
  | [d1, d2, d3, d4, d5, d6] => { results := [.lit (.bool false)], args := [d1, d2, d3, d4, d5, d6] }
  | _ => none }
def RedoBackWrongFalsely : Prop := redoBackRow.holds Try.pinned (OpenSpec.ofChange redoBackWrong)

/-- 'lintellaw13.RedoKnown': WHATEVER THE INPUT: true; the input reads as it did. -/
def redoKnownSpec : ChangeSpec := { name := "redoKnown", fn := fun _ => fun
  | [] => { results := [.lit (.bool true)], args := [] }
  | _ => none }
def redoKnownRow : OpenClaim := { program := "ytgkojedgamglgaa", sum := "c99d30ca5a8f9e7ed8a3f7b113c551aa3988855757f3aed45b9308f38df1a85e", func := "lintel/lintellaw13.RedoKnown", spec := "redoKnown", unfollowed := true, recurses := true, apart := false }
def RedoKnownSaid : Prop := redoKnownRow.holds Try.pinned (OpenSpec.ofChange redoKnownSpec)

/-- ITS FALSE NEIGHBOUR: 'it returns false'. Refute it at one input. -/
def redoKnownWrong : ChangeSpec := { name := "redoKnown", fn := fun _ => fun
  | [] => { results := [.lit (.bool false)], args := [] }
  | _ => none }
def RedoKnownWrongFalsely : Prop := redoKnownRow.holds Try.pinned (OpenSpec.ofChange redoKnownWrong)

/-- 'lintellaw13.RedoSays': WHATEVER THE INPUT: true; the input reads as it did. -/
def redoSaysSpec : ChangeSpec := { name := "redoSays", fn := fun _ => fun
  | [d1, d2, d3, d4] => { results := [.lit (.bool true)], args := [d1, d2, d3, d4] }
  | _ => none }
def redoSaysRow : OpenClaim := { program := "ytgkojedgamglgaa", sum := "c99d30ca5a8f9e7ed8a3f7b113c551aa3988855757f3aed45b9308f38df1a85e", func := "lintel/lintellaw13.RedoSays", spec := "redoSays", unfollowed := true, recurses := true, apart := false }
def RedoSaysSaid : Prop := redoSaysRow.holds Try.pinned (OpenSpec.ofChange redoSaysSpec)

/-- ITS FALSE NEIGHBOUR: 'it returns false'. Refute it at one input. -/
def redoSaysWrong : ChangeSpec := { name := "redoSays", fn := fun _ => fun
  | [d1, d2, d3, d4] => { results := [.lit (.bool false)], args := [d1, d2, d3, d4] }
  | _ => none }
def RedoSaysWrongFalsely : Prop := redoSaysRow.holds Try.pinned (OpenSpec.ofChange redoSaysWrong)

/-- 'lintellaw8.NodeKnown': WHATEVER THE INPUT: true; the input reads as it did. -/
def nodeKnownSpec : ChangeSpec := { name := "nodeKnown", fn := fun _ => fun
  | [] => { results := [.lit (.bool true)], args := [] }
  | _ => none }
def nodeKnownRow : OpenClaim := { program := "ytgkojedgamglgaa", sum := "c99d30ca5a8f9e7ed8a3f7b113c551aa3988855757f3aed45b9308f38df1a85e", func := "lintel/lintellaw8.NodeKnown", spec := "nodeKnown", unfollowed := true, recurses := true, apart := false }
def NodeKnownSaid : Prop := nodeKnownRow.holds Try.pinned (OpenSpec.ofChange nodeKnownSpec)

/-- ITS FALSE NEIGHBOUR: 'it returns false'. Refute it at one input. -/
def nodeKnownWrong : ChangeSpec := { name := "nodeKnown", fn := fun _ => fun
  | [] => { results := [.lit (.bool false)], args := [] }
  | _ => none }
def NodeKnownWrongFalsely : Prop := nodeKnownRow.holds Try.pinned (OpenSpec.ofChange nodeKnownWrong)

/-- 'lintellaw8.NodeSays': WHATEVER THE INPUT: true; the input reads as it did. -/
def nodeSaysSpec : ChangeSpec := { name := "nodeSays", fn := fun _ => fun
  | [d1, d2, d3] => { results := [.lit (.bool true)], args := [d1, d2, d3] }
  | _ => none }
def nodeSaysRow : OpenClaim := { program := "ytgkojedgamglgaa", sum := "c99d30ca5a8f9e7ed8a3f7b113c551aa3988855757f3aed45b9308f38df1a85e", func := "lintel/lintellaw8.NodeSays", spec := "nodeSays", unfollowed := true, recurses := true, apart := false }
def NodeSaysSaid : Prop := nodeSaysRow.holds Try.pinned (OpenSpec.ofChange nodeSaysSpec)

/-- ITS FALSE NEIGHBOUR: 'it returns false'. Refute it at one input. -/
def nodeSaysWrong : ChangeSpec := { name := "nodeSays", fn := fun _ => fun
  | [d1, d2, d3] => { results := [.lit (.bool false)], args := [d1, d2, d3] }
  | _ => none }
def NodeSaysWrongFalsely : Prop := nodeSaysRow.holds Try.pinned (OpenSpec.ofChange nodeSaysWrong)

/-- 'lintellaw8.NodeOne': WHATEVER THE INPUT: true; the input reads as it did. -/
def nodeOneSpec : ChangeSpec := { name := "nodeOne", fn := fun _ => fun
  | [d1, d2, d3] => { results := [.lit (.bool true)], args := [d1, d2, d3] }
  | _ => none }
def nodeOneRow : OpenClaim := { program := "ytgkojedgamglgaa", sum := "c99d30ca5a8f9e7ed8a3f7b113c551aa3988855757f3aed45b9308f38df1a85e", func := "lintel/lintellaw8.NodeOne", spec := "nodeOne", unfollowed := true, recurses := true, apart := false }
def NodeOneSaid : Prop := nodeOneRow.holds Try.pinned (OpenSpec.ofChange nodeOneSpec)

/-- ITS FALSE NEIGHBOUR: 'it returns false'. Refute it at one input. -/
def nodeOneWrong : ChangeSpec := { name := "nodeOne", fn := fun _ => fun
  | [d1, d2, d3] => { results := [.lit (.bool false)], args := [d1, d2, d3] }
  | _ => none }
def NodeOneWrongFalsely : Prop := nodeOneRow.holds Try.pinned (OpenSpec.ofChange nodeOneWrong)

/-- 'lintellaw8.NodeLong': WHATEVER THE INPUT: true; the input reads as it did. -/
def nodeLongSpec : ChangeSpec := { name := "nodeLong", fn := fun _ => fun
  | [d] => { results := [.lit (.bool true)], args := [d] }
  | _ => none }
def nodeLongRow : OpenClaim := { program := "ytgkojedgamglgaa", sum := "c99d30ca5a8f9e7ed8a3f7b113c551aa3988855757f3aed45b9308f38df1a85e", func := "lintel/lintellaw8.NodeLong", spec := "nodeLong", unfollowed := true, recurses := true, apart := false }
def NodeLongSaid : Prop := nodeLongRow.holds Try.pinned (OpenSpec.ofChange nodeLongSpec)

/-- ITS FALSE NEIGHBOUR: 'it returns false'. Refute it at one input. -/
def nodeLongWrong : ChangeSpec := { name := "nodeLong", fn := fun _ => fun
  | [d] => { results := [.lit (.bool false)], args := [d] }
  | _ => none }
def NodeLongWrongFalsely : Prop := nodeLongRow.holds Try.pinned (OpenSpec.ofChange nodeLongWrong)

/-- 'lintellaw8.NodeGood': WHATEVER THE INPUT: true; the input reads as it did. -/
def nodeGoodSpec : ChangeSpec := { name := "nodeGood", fn := fun _ => fun
  | [d1, d2] => { results := [.lit (.bool true)], args := [d1, d2] }
  | _ => none }
def nodeGoodRow : OpenClaim := { program := "ytgkojedgamglgaa", sum := "c99d30ca5a8f9e7ed8a3f7b113c551aa3988855757f3aed45b9308f38df1a85e", func := "lintel/lintellaw8.NodeGood", spec := "nodeGood", unfollowed := true, recurses := true, apart := false }
def NodeGoodSaid : Prop := nodeGoodRow.holds Try.pinned (OpenSpec.ofChange nodeGoodSpec)

/-- ITS FALSE NEIGHBOUR: 'it returns false'. Refute it at one input. -/
def nodeGoodWrong : ChangeSpec := { name := "nodeGood", fn := fun _ => fun
  | [d1, d2] => { results := [.lit (.bool false)], args := [d1, d2] }
  | _ => none }
def NodeGoodWrongFalsely : Prop := nodeGoodRow.holds Try.pinned (OpenSpec.ofChange nodeGoodWrong)

/-- 'lintellaw9.SlotKnown': WHATEVER THE INPUT: true; the input reads as it did. -/
def slotKnownSpec : ChangeSpec := { name := "slotKnown", fn := fun _ => fun
  | [] => { results := [.lit (.bool true)], args := [] }
  | _ => none }
def slotKnownRow : OpenClaim := { program := "ytgkojedgamglgaa", sum := "c99d30ca5a8f9e7ed8a3f7b113c551aa3988855757f3aed45b9308f38df1a85e", func := "lintel/lintellaw9.SlotKnown", spec := "slotKnown", inPlace := ["internal/bytealg.IndexByteString", "internal/bytealg.IndexString", "internal/abi.NoEscape"], named := ["internal/bytealg.MaxLen"], apart := false }
def SlotKnownSaid : Prop := slotKnownRow.holds Try.pinned (OpenSpec.ofChange slotKnownSpec)

/-- ITS FALSE NEIGHBOUR: 'it returns false'. Refute it at one input. -/
def slotKnownWrong : ChangeSpec := { name := "slotKnown", fn := fun _ => fun
  | [] => { results := [.lit (.bool false)], args := [] }
  | _ => none }
def SlotKnownWrongFalsely : Prop := slotKnownRow.holds Try.pinned (OpenSpec.ofChange slotKnownWrong)

/-- 'lintellaw9.SlotSays': WHATEVER THE INPUT: true; the input reads as it did. -/
def slotSaysSpec : ChangeSpec := { name := "slotSays", fn := fun _ => fun
  | [d1, d2] => { results := [.lit (.bool true)], args := [d1, d2] }
  | _ => none }
def slotSaysRow : OpenClaim := { program := "ytgkojedgamglgaa", sum := "c99d30ca5a8f9e7ed8a3f7b113c551aa3988855757f3aed45b9308f38df1a85e", func := "lintel/lintellaw9.SlotSays", spec := "slotSays", inPlace := ["internal/bytealg.IndexByteString", "internal/bytealg.IndexString", "internal/abi.NoEscape"], named := ["internal/bytealg.MaxLen"], apart := false }
def SlotSaysSaid : Prop := slotSaysRow.holds Try.pinned (OpenSpec.ofChange slotSaysSpec)

/-- ITS FALSE NEIGHBOUR: 'it returns false'. Refute it at one input. -/
def slotSaysWrong : ChangeSpec := { name := "slotSays", fn := fun _ => fun
  | [d1, d2] => { results := [.lit (.bool false)], args := [d1, d2] }
  | _ => none }
def SlotSaysWrongFalsely : Prop := slotSaysRow.holds Try.pinned (OpenSpec.ofChange slotSaysWrong)

/-- 'lintellaw9.SlotOne': WHATEVER THE INPUT: true; the input reads as it did. -/
def slotOneSpec : ChangeSpec := { name := "slotOne", fn := fun _ => fun
  | [d1, d2, d3] => { results := [.lit (.bool true)], args := [d1, d2, d3] }
  | _ => none }
def slotOneRow : OpenClaim := { program := "ytgkojedgamglgaa", sum := "c99d30ca5a8f9e7ed8a3f7b113c551aa3988855757f3aed45b9308f38df1a85e", func := "lintel/lintellaw9.SlotOne", spec := "slotOne", inPlace := ["internal/bytealg.IndexByteString", "internal/bytealg.IndexString", "internal/abi.NoEscape"], named := ["internal/bytealg.MaxLen"], apart := false }
def SlotOneSaid : Prop := slotOneRow.holds Try.pinned (OpenSpec.ofChange slotOneSpec)

/-- ITS FALSE NEIGHBOUR: 'it returns false'. Refute it at one input. -/
def slotOneWrong : ChangeSpec := { name := "slotOne", fn := fun _ => fun
  | [d1, d2, d3] => { results := [.lit (.bool false)], args := [d1, d2, d3] }
  | _ => none }
def SlotOneWrongFalsely : Prop := slotOneRow.holds Try.pinned (OpenSpec.ofChange slotOneWrong)

/-- 'lintellaw9.SlotNames': WHATEVER THE INPUT: true; the input reads as it did. -/
def slotNamesSpec : ChangeSpec := { name := "slotNames", fn := fun _ => fun
  | [d1, d2] => { results := [.lit (.bool true)], args := [d1, d2] }
  | _ => none }
def slotNamesRow : OpenClaim := { program := "ytgkojedgamglgaa", sum := "c99d30ca5a8f9e7ed8a3f7b113c551aa3988855757f3aed45b9308f38df1a85e", func := "lintel/lintellaw9.SlotNames", spec := "slotNames", inPlace := ["internal/bytealg.IndexByteString", "internal/bytealg.IndexString", "internal/abi.NoEscape"], named := ["internal/bytealg.MaxLen"], apart := false }
def SlotNamesSaid : Prop := slotNamesRow.holds Try.pinned (OpenSpec.ofChange slotNamesSpec)

/-- ITS FALSE NEIGHBOUR: 'it returns false'. Refute it at one input. -/
def slotNamesWrong : ChangeSpec := { name := "slotNames", fn := fun _ => fun
  | [d1, d2] => { results := [.lit (.bool false)], args := [d1, d2] }
  | _ => none }
def SlotNamesWrongFalsely : Prop := slotNamesRow.holds Try.pinned (OpenSpec.ofChange slotNamesWrong)

/- THE SECOND FORM. 'bulk': how many values and letters a reading holds, each counted each time it is reached (what is shared counts as often as it is met; a slice's spare places count too). A statement '..UptoSaid' is the law's where the arguments, and the package variables that the reading takes, are together of bulk at most 1048576: NARROWER than '..Said'. Prove '..Said' where nothing that the law and all that it calls make is longer than what came in: it says more and counts as full. Else prove '..UptoSaid'. A law counts once. -/
mutual
def uptoBulk {H : Type} : DataW H → Nat
  | .lit (.string bytes) => bytes.length + 1
  | .lit _ => 1
  | .nil => 1
  | .ptr d => uptoBulk d + 1
  | .slice elems spare => uptoBulkAll elems + uptoBulkAll spare + 1
  | .agg parts => uptoBulkAll parts + 1
  | .iface _ d => uptoBulk d + 1
  | .map entries => uptoBulkEntries entries + 1
  | .held _ => 1
def uptoBulkAll {H : Type} : List (DataW H) → Nat
  | [] => 0
  | d :: r => uptoBulk d + uptoBulkAll r
def uptoBulkEntries {H : Type} : List (Lit × DataW H) → Nat
  | [] => 0
  | x :: r => uptoBulkEntry x + uptoBulkEntries r
def uptoBulkEntry {H : Type} : Lit × DataW H → Nat
  | (.string bytes, d) => bytes.length + uptoBulk d + 1
  | (_, d) => uptoBulk d + 1
 end
def uptoSmall : (H : Type) → List (DataW H) → Bool := fun _ ds => decide (uptoBulkAll ds ≤ 1048576)
def OpenSpec.upto (s : _root_.Go.ChangeSpec) : _root_.Go.OpenSpec := { _root_.Go.OpenSpec.ofChange s with cond := some uptoSmall }

/-- 'lintellaw13.RedoSize', WHERE WHAT IT READS IS OF BULK AT MOST 1048576: true; the input reads as it did. -/
def redoSizeUptoRow : OpenClaim := { program := "ytgkojedgamglgaa", sum := "c99d30ca5a8f9e7ed8a3f7b113c551aa3988855757f3aed45b9308f38df1a85e", func := "lintel/lintellaw13.RedoSize", spec := "redoSize", unfollowed := true, recurses := true, apart := false, narrowed := true }
def RedoSizeUptoSaid : Prop := redoSizeUptoRow.holds Try.pinned (OpenSpec.upto redoSizeSpec)

/-- 'lintellaw7.HeadKnown', WHERE WHAT IT READS IS OF BULK AT MOST 1048576: true; the input reads as it did. -/
def headKnownUptoRow : OpenClaim := { program := "ytgkojedgamglgaa", sum := "c99d30ca5a8f9e7ed8a3f7b113c551aa3988855757f3aed45b9308f38df1a85e", func := "lintel/lintellaw7.HeadKnown", spec := "headKnown", apart := false, narrowed := true }
def HeadKnownUptoSaid : Prop := headKnownUptoRow.holds Try.pinned (OpenSpec.upto headKnownSpec)

/-- 'lintellaw7.HeadSays', WHERE WHAT IT READS IS OF BULK AT MOST 1048576: true; the input reads as it did. -/
def headSaysUptoRow : OpenClaim := { program := "ytgkojedgamglgaa", sum := "c99d30ca5a8f9e7ed8a3f7b113c551aa3988855757f3aed45b9308f38df1a85e", func := "lintel/lintellaw7.HeadSays", spec := "headSays", apart := false, narrowed := true }
def HeadSaysUptoSaid : Prop := headSaysUptoRow.holds Try.pinned (OpenSpec.upto headSaysSpec)

/-- 'lintellaw7.HeadOne', WHERE WHAT IT READS IS OF BULK AT MOST 1048576: true; the input reads as it did. -/
def headOneUptoRow : OpenClaim := { program := "ytgkojedgamglgaa", sum := "c99d30ca5a8f9e7ed8a3f7b113c551aa3988855757f3aed45b9308f38df1a85e", func := "lintel/lintellaw7.HeadOne", spec := "headOne", apart := false, narrowed := true }
def HeadOneUptoSaid : Prop := headOneUptoRow.holds Try.pinned (OpenSpec.upto headOneSpec)

/-- 'lintellaw7.HeadTwo', WHERE WHAT IT READS IS OF BULK AT MOST 1048576: true; the input reads as it did. -/
def headTwoUptoRow : OpenClaim := { program := "ytgkojedgamglgaa", sum := "c99d30ca5a8f9e7ed8a3f7b113c551aa3988855757f3aed45b9308f38df1a85e", func := "lintel/lintellaw7.HeadTwo", spec := "headTwo", apart := false, narrowed := true }
def HeadTwoUptoSaid : Prop := headTwoUptoRow.holds Try.pinned (OpenSpec.upto headTwoSpec)

/-- 'lintellaw7.HeadBack', WHERE WHAT IT READS IS OF BULK AT MOST 1048576: true; the input reads as it did. -/
def headBackUptoRow : OpenClaim := { program := "ytgkojedgamglgaa", sum := "c99d30ca5a8f9e7ed8a3f7b113c551aa3988855757f3aed45b9308f38df1a85e", func := "lintel/lintellaw7.HeadBack", spec := "headBack", apart := false, narrowed := true }
def HeadBackUptoSaid : Prop := headBackUptoRow.holds Try.pinned (OpenSpec.upto headBackSpec)

/-- 'lintellaw13.RedoOrder', WHERE WHAT IT READS IS OF BULK AT MOST 1048576: true; the input reads as it did. -/
def redoOrderUptoRow : OpenClaim := { program := "ytgkojedgamglgaa", sum := "c99d30ca5a8f9e7ed8a3f7b113c551aa3988855757f3aed45b9308f38df1a85e", func := "lintel/lintellaw13.RedoOrder", spec := "redoOrder", unfollowed := true, recurses := true, apart := false, narrowed := true }
def RedoOrderUptoSaid : Prop := redoOrderUptoRow.holds Try.pinned (OpenSpec.upto redoOrderSpec)

/-- 'lintellaw13.RedoBack', WHERE WHAT IT READS IS OF BULK AT MOST 1048576: true; the input reads as it did. -/
def redoBackUptoRow : OpenClaim := { program := "ytgkojedgamglgaa", sum := "c99d30ca5a8f9e7ed8a3f7b113c551aa3988855757f3aed45b9308f38df1a85e", func := "lintel/lintellaw13.RedoBack", spec := "redoBack", unfollowed := true, recurses := true, apart := false, narrowed := true }
def RedoBackUptoSaid : Prop := redoBackUptoRow.holds Try.pinned (OpenSpec.upto redoBackSpec)

/-- 'lintellaw13.RedoKnown', WHERE WHAT IT READS IS OF BULK AT MOST 1048576: true; the input reads as it did. -/
def redoKnownUptoRow : OpenClaim := { program := "ytgkojedgamglgaa", sum := "c99d30ca5a8f9e7ed8a3f7b113c551aa3988855757f3aed45b9308f38df1a85e", func := "lintel/lintellaw13.RedoKnown", spec := "redoKnown", unfollowed := true, recurses := true, apart := false, narrowed := true }
def RedoKnownUptoSaid : Prop := redoKnownUptoRow.holds Try.pinned (OpenSpec.upto redoKnownSpec)

/-- 'lintellaw13.RedoSays', WHERE WHAT IT READS IS OF BULK AT MOST 1048576: true; the input reads as it did. -/
def redoSaysUptoRow : OpenClaim := { program := "ytgkojedgamglgaa", sum := "c99d30ca5a8f9e7ed8a3f7b113c551aa3988855757f3aed45b9308f38df1a85e", func := "lintel/lintellaw13.RedoSays", spec := "redoSays", unfollowed := true, recurses := true, apart := false, narrowed := true }
def RedoSaysUptoSaid : Prop := redoSaysUptoRow.holds Try.pinned (OpenSpec.upto redoSaysSpec)

/-- 'lintellaw8.NodeKnown', WHERE WHAT IT READS IS OF BULK AT MOST 1048576: true; the input reads as it did. -/
def nodeKnownUptoRow : OpenClaim := { program := "ytgkojedgamglgaa", sum := "c99d30ca5a8f9e7ed8a3f7b113c551aa3988855757f3aed45b9308f38df1a85e", func := "lintel/lintellaw8.NodeKnown", spec := "nodeKnown", unfollowed := true, recurses := true, apart := false, narrowed := true }
def NodeKnownUptoSaid : Prop := nodeKnownUptoRow.holds Try.pinned (OpenSpec.upto nodeKnownSpec)

/-- 'lintellaw8.NodeSays', WHERE WHAT IT READS IS OF BULK AT MOST 1048576: true; the input reads as it did. -/
def nodeSaysUptoRow : OpenClaim := { program := "ytgkojedgamglgaa", sum := "c99d30ca5a8f9e7ed8a3f7b113c551aa3988855757f3aed45b9308f38df1a85e", func := "lintel/lintellaw8.NodeSays", spec := "nodeSays", unfollowed := true, recurses := true, apart := false, narrowed := true }
def NodeSaysUptoSaid : Prop := nodeSaysUptoRow.holds Try.pinned (OpenSpec.upto nodeSaysSpec)

/-- 'lintellaw8.NodeOne', WHERE WHAT IT READS IS OF BULK AT MOST 1048576: true; the input reads as it did. -/
def nodeOneUptoRow : OpenClaim := { program := "ytgkojedgamglgaa", sum := "c99d30ca5a8f9e7ed8a3f7b113c551aa3988855757f3aed45b9308f38df1a85e", func := "lintel/lintellaw8.NodeOne", spec := "nodeOne", unfollowed := true, recurses := true, apart := false, narrowed := true }
def NodeOneUptoSaid : Prop := nodeOneUptoRow.holds Try.pinned (OpenSpec.upto nodeOneSpec)

/-- 'lintellaw8.NodeLong', WHERE WHAT IT READS IS OF BULK AT MOST 1048576: true; the input reads as it did. -/
def nodeLongUptoRow : OpenClaim := { program := "ytgkojedgamglgaa", sum := "c99d30ca5a8f9e7ed8a3f7b113c551aa3988855757f3aed45b9308f38df1a85e", func := "lintel/lintellaw8.NodeLong", spec := "nodeLong", unfollowed := true, recurses := true, apart := false, narrowed := true }
def NodeLongUptoSaid : Prop := nodeLongUptoRow.holds Try.pinned (OpenSpec.upto nodeLongSpec)

/-- 'lintellaw8.NodeGood', WHERE WHAT IT READS IS OF BULK AT MOST 1048576: true; the input reads as it did. -/
def nodeGoodUptoRow : OpenClaim := { program := "ytgkojedgamglgaa", sum := "c99d30ca5a8f9e7ed8a3f7b113c551aa3988855757f3aed45b9308f38df1a85e", func := "lintel/lintellaw8.NodeGood", spec := "nodeGood", unfollowed := true, recurses := true, apart := false, narrowed := true }
def NodeGoodUptoSaid : Prop := nodeGoodUptoRow.holds Try.pinned (OpenSpec.upto nodeGoodSpec)

/-- 'lintellaw9.SlotKnown', WHERE WHAT IT READS IS OF BULK AT MOST 1048576: true; the input reads as it did. -/
def slotKnownUptoRow : OpenClaim := { program := "ytgkojedgamglgaa", sum := "c99d30ca5a8f9e7ed8a3f7b113c551aa3988855757f3aed45b9308f38df1a85e", func := "lintel/lintellaw9.SlotKnown", spec := "slotKnown", inPlace := ["internal/bytealg.IndexByteString", "internal/bytealg.IndexString", "internal/abi.NoEscape"], named := ["internal/bytealg.MaxLen"], apart := false, narrowed := true }
def SlotKnownUptoSaid : Prop := slotKnownUptoRow.holds Try.pinned (OpenSpec.upto slotKnownSpec)

/-- 'lintellaw9.SlotSays', WHERE WHAT IT READS IS OF BULK AT MOST 1048576: true; the input reads as it did. -/
def slotSaysUptoRow : OpenClaim := { program := "ytgkojedgamglgaa", sum := "c99d30ca5a8f9e7ed8a3f7b113c551aa3988855757f3aed45b9308f38df1a85e", func := "lintel/lintellaw9.SlotSays", spec := "slotSays", inPlace := ["internal/bytealg.IndexByteString", "internal/bytealg.IndexString", "internal/abi.NoEscape"], named := ["internal/bytealg.MaxLen"], apart := false, narrowed := true }
def SlotSaysUptoSaid : Prop := slotSaysUptoRow.holds Try.pinned (OpenSpec.upto slotSaysSpec)

/-- 'lintellaw9.SlotOne', WHERE WHAT IT READS IS OF BULK AT MOST 1048576: true; the input reads as it did. -/
def slotOneUptoRow : OpenClaim := { program := "ytgkojedgamglgaa", sum := "c99d30ca5a8f9e7ed8a3f7b113c551aa3988855757f3aed45b9308f38df1a85e", func := "lintel/lintellaw9.SlotOne", spec := "slotOne", inPlace := ["internal/bytealg.IndexByteString", "internal/bytealg.IndexString", "internal/abi.NoEscape"], named := ["internal/bytealg.MaxLen"], apart := false, narrowed := true }
def SlotOneUptoSaid : Prop := slotOneUptoRow.holds Try.pinned (OpenSpec.upto slotOneSpec)

/-- 'lintellaw9.SlotNames', WHERE WHAT IT READS IS OF BULK AT MOST 1048576: true; the input reads as it did. -/
def slotNamesUptoRow : OpenClaim := { program := "ytgkojedgamglgaa", sum := "c99d30ca5a8f9e7ed8a3f7b113c551aa3988855757f3aed45b9308f38df1a85e", func := "lintel/lintellaw9.SlotNames", spec := "slotNames", inPlace := ["internal/bytealg.IndexByteString", "internal/bytealg.IndexString", "internal/abi.NoEscape"], named := ["internal/bytealg.MaxLen"], apart := false, narrowed := true }
def SlotNamesUptoSaid : Prop := slotNamesUptoRow.holds Try.pinned (OpenSpec.upto slotNamesSpec)

end Rows
end Go.Proofs.Ytgkojedgamglgaa
