/-
  No cell of these rows narrows 'for every input' (looked for: loops, veiled, ifaces, maps, wideKeys, modest, calm, conditions, laid).
  DERIVED. THE GIVEN ROWS OF THIS SEAT. 11 by the template 'for every input the law returns true; each argument reads behind the call as it read before'; 0 by the template 'total and deterministic' (their statements: YtfcfegnfcgglaaaTotals.lean).
  GIVEN WITH THE SEED: the statements are not yours to turn. If you find one false, say at which input.
  Laid BY PROGRAM, IN A SANDBOX (cutbox-rows.mjs): the forced cells as the released guide's own fill.sh prints them over the translation df583f83d0dc6939… (all of the seat's roots in one cut). By AI agents, Wed Nov 11 2026. No macro, syntax, notation, axiom, sorry.
-/
import Derived.Test.YtfcfegnfcgglaaaChecked
import GoSem.Claim
import GoSem.ClaimJoined
import GoSem.ClaimMapViews
import Derived.JoinedTies
import Derived.KernelRfl
namespace Go.Proofs.Ytfcfegnfcgglaaa
/- THE CELL 'sum', in the pinned program and in every row, IS THE sha256 OF THE DUMP (.gsa) THAT YtfcfegnfcgglaaaProg.lean LOADS. Nothing in Lean hashes anything: it is a label: what it is worth is what the hold of that sum in a sandbox is worth. -/
noncomputable def Try.pinned : Pinned := { name := "ytfcfegnfcgglaaa", sum := "df583f83d0dc693995ae6ad99fdb47b1784abc531b2ff37c5f801e416d1a475b", checked := Try.checked }
namespace Rows
def none {H : Type} : Left H := { results := [], args := [] }

/-- 'lintellaw2.SealSays': WHATEVER THE INPUT: true; the input reads as it did. -/
def sealSaysSpec : ChangeSpec := { name := "sealSays", fn := fun _ => fun
  | [d1, d2, d3] => { results := [.lit (.bool true)], args := [d1, d2, d3] }
  | _ => none }
def sealSaysRow : OpenClaim := { program := "ytfcfegnfcgglaaa", sum := "df583f83d0dc693995ae6ad99fdb47b1784abc531b2ff37c5f801e416d1a475b", func := "lintel/lintellaw2.SealSays", spec := "sealSays", apart := false }
def SealSaysSaid : Prop := sealSaysRow.holds Try.pinned (OpenSpec.ofChange sealSaysSpec)

/-- ITS FALSE NEIGHBOUR: 'it returns false'. Refute it at one input. -/
def sealSaysWrong : ChangeSpec := { name := "sealSays", fn := fun _ => fun
  | [d1, d2, d3] => { results := [.lit (.bool false)], args := [d1, d2, d3] }
  | _ => none }
def SealSaysWrongFalsely : Prop := sealSaysRow.holds Try.pinned (OpenSpec.ofChange sealSaysWrong)

/-- 'lintellaw2.SealOne': WHATEVER THE INPUT: true; the input reads as it did. -/
def sealOneSpec : ChangeSpec := { name := "sealOne", fn := fun _ => fun
  | [d1, d2, d3] => { results := [.lit (.bool true)], args := [d1, d2, d3] }
  | _ => none }
def sealOneRow : OpenClaim := { program := "ytfcfegnfcgglaaa", sum := "df583f83d0dc693995ae6ad99fdb47b1784abc531b2ff37c5f801e416d1a475b", func := "lintel/lintellaw2.SealOne", spec := "sealOne", apart := false }
def SealOneSaid : Prop := sealOneRow.holds Try.pinned (OpenSpec.ofChange sealOneSpec)

/-- ITS FALSE NEIGHBOUR: 'it returns false'. Refute it at one input. -/
def sealOneWrong : ChangeSpec := { name := "sealOne", fn := fun _ => fun
  | [d1, d2, d3] => { results := [.lit (.bool false)], args := [d1, d2, d3] }
  | _ => none }
def SealOneWrongFalsely : Prop := sealOneRow.holds Try.pinned (OpenSpec.ofChange sealOneWrong)

/-- 'lintellaw2.SealOver': WHATEVER THE INPUT: true; the input reads as it did. -/
def sealOverSpec : ChangeSpec := { name := "sealOver", fn := fun _ => fun
  | [d1, d2, d3] => { results := [.lit (.bool true)], args := [d1, d2, d3] }
  | _ => none }
def sealOverRow : OpenClaim := { program := "ytfcfegnfcgglaaa", sum := "df583f83d0dc693995ae6ad99fdb47b1784abc531b2ff37c5f801e416d1a475b", func := "lintel/lintellaw2.SealOver", spec := "sealOver", apart := false }
def SealOverSaid : Prop := sealOverRow.holds Try.pinned (OpenSpec.ofChange sealOverSpec)

/-- ITS FALSE NEIGHBOUR: 'it returns false'. Refute it at one input. -/
def sealOverWrong : ChangeSpec := { name := "sealOver", fn := fun _ => fun
  | [d1, d2, d3] => { results := [.lit (.bool false)], args := [d1, d2, d3] }
  | _ => none }
def SealOverWrongFalsely : Prop := sealOverRow.holds Try.pinned (OpenSpec.ofChange sealOverWrong)

/-- 'lintellaw2.SealTwo': WHATEVER THE INPUT: true; the input reads as it did. -/
def sealTwoSpec : ChangeSpec := { name := "sealTwo", fn := fun _ => fun
  | [d1, d2, d3] => { results := [.lit (.bool true)], args := [d1, d2, d3] }
  | _ => none }
def sealTwoRow : OpenClaim := { program := "ytfcfegnfcgglaaa", sum := "df583f83d0dc693995ae6ad99fdb47b1784abc531b2ff37c5f801e416d1a475b", func := "lintel/lintellaw2.SealTwo", spec := "sealTwo", apart := false }
def SealTwoSaid : Prop := sealTwoRow.holds Try.pinned (OpenSpec.ofChange sealTwoSpec)

/-- ITS FALSE NEIGHBOUR: 'it returns false'. Refute it at one input. -/
def sealTwoWrong : ChangeSpec := { name := "sealTwo", fn := fun _ => fun
  | [d1, d2, d3] => { results := [.lit (.bool false)], args := [d1, d2, d3] }
  | _ => none }
def SealTwoWrongFalsely : Prop := sealTwoRow.holds Try.pinned (OpenSpec.ofChange sealTwoWrong)

/-- 'lintellaw2.SealFits': WHATEVER THE INPUT: true; the input reads as it did. -/
def sealFitsSpec : ChangeSpec := { name := "sealFits", fn := fun _ => fun
  | [d1, d2, d3] => { results := [.lit (.bool true)], args := [d1, d2, d3] }
  | _ => none }
def sealFitsRow : OpenClaim := { program := "ytfcfegnfcgglaaa", sum := "df583f83d0dc693995ae6ad99fdb47b1784abc531b2ff37c5f801e416d1a475b", func := "lintel/lintellaw2.SealFits", spec := "sealFits", apart := false }
def SealFitsSaid : Prop := sealFitsRow.holds Try.pinned (OpenSpec.ofChange sealFitsSpec)

/-- ITS FALSE NEIGHBOUR: 'it returns false'. Refute it at one input. -/
def sealFitsWrong : ChangeSpec := { name := "sealFits", fn := fun _ => fun
  | [d1, d2, d3] => { results := [.lit (.bool false)], args := [d1, d2, d3] }
  | _ => none }
def SealFitsWrongFalsely : Prop := sealFitsRow.holds Try.pinned (OpenSpec.ofChange sealFitsWrong)

/-- 'lintellaw1.WordBits': WHATEVER THE INPUT: true; the input reads as it did. -/
def wordBitsSpec : ChangeSpec := { name := "wordBits", fn := fun _ => fun
  | [d1, d2, d3, d4] => { results := [.lit (.bool true)], args := [d1, d2, d3, d4] }
  | _ => none }
def wordBitsRow : OpenClaim := { program := "ytfcfegnfcgglaaa", sum := "df583f83d0dc693995ae6ad99fdb47b1784abc531b2ff37c5f801e416d1a475b", func := "lintel/lintellaw1.WordBits", spec := "wordBits", apart := false }
def WordBitsSaid : Prop := wordBitsRow.holds Try.pinned (OpenSpec.ofChange wordBitsSpec)

/-- ITS FALSE NEIGHBOUR: 'it returns false'. Refute it at one input. -/
def wordBitsWrong : ChangeSpec := { name := "wordBits", fn := fun _ => fun
  | [d1, d2, d3, d4] => { results := [.lit (.bool false)], args := [d1, d2, d3, d4] }
  | _ => none }
def WordBitsWrongFalsely : Prop := wordBitsRow.holds Try.pinned (OpenSpec.ofChange wordBitsWrong)

/-- 'lintellaw1.WordParts': WHATEVER THE INPUT: true; the input reads as it did. -/
def wordPartsSpec : ChangeSpec := { name := "wordParts", fn := fun _ => fun
  | [d1, d2] => { results := [.lit (.bool true)], args := [d1, d2] }
  | _ => none }
def wordPartsRow : OpenClaim := { program := "ytfcfegnfcgglaaa", sum := "df583f83d0dc693995ae6ad99fdb47b1784abc531b2ff37c5f801e416d1a475b", func := "lintel/lintellaw1.WordParts", spec := "wordParts", apart := false }
def WordPartsSaid : Prop := wordPartsRow.holds Try.pinned (OpenSpec.ofChange wordPartsSpec)

/-- ITS FALSE NEIGHBOUR: 'it returns false'. Refute it at one input. -/
def wordPartsWrong : ChangeSpec := { name := "wordParts", fn := fun _ => fun
  | [d1, d2] => { results := [.lit (.bool false)], args := [d1, d2] }
  | _ => none }
def WordPartsWrongFalsely : Prop := wordPartsRow.holds Try.pinned (OpenSpec.ofChange wordPartsWrong)

/-- 'lintellaw1.WordTurns': WHATEVER THE INPUT: true; the input reads as it did. -/
def wordTurnsSpec : ChangeSpec := { name := "wordTurns", fn := fun _ => fun
  | [d1, d2, d3] => { results := [.lit (.bool true)], args := [d1, d2, d3] }
  | _ => none }
def wordTurnsRow : OpenClaim := { program := "ytfcfegnfcgglaaa", sum := "df583f83d0dc693995ae6ad99fdb47b1784abc531b2ff37c5f801e416d1a475b", func := "lintel/lintellaw1.WordTurns", spec := "wordTurns", apart := false }
def WordTurnsSaid : Prop := wordTurnsRow.holds Try.pinned (OpenSpec.ofChange wordTurnsSpec)

/-- ITS FALSE NEIGHBOUR: 'it returns false'. Refute it at one input. -/
def wordTurnsWrong : ChangeSpec := { name := "wordTurns", fn := fun _ => fun
  | [d1, d2, d3] => { results := [.lit (.bool false)], args := [d1, d2, d3] }
  | _ => none }
def WordTurnsWrongFalsely : Prop := wordTurnsRow.holds Try.pinned (OpenSpec.ofChange wordTurnsWrong)

/-- 'lintellaw1.WordBack': WHATEVER THE INPUT: true; the input reads as it did. -/
def wordBackSpec : ChangeSpec := { name := "wordBack", fn := fun _ => fun
  | [d1, d2, d3, d4, d5] => { results := [.lit (.bool true)], args := [d1, d2, d3, d4, d5] }
  | _ => none }
def wordBackRow : OpenClaim := { program := "ytfcfegnfcgglaaa", sum := "df583f83d0dc693995ae6ad99fdb47b1784abc531b2ff37c5f801e416d1a475b", func := "lintel/lintellaw1.WordBack", spec := "wordBack", apart := false }
def WordBackSaid : Prop := wordBackRow.holds Try.pinned (OpenSpec.ofChange wordBackSpec)

/-- ITS FALSE NEIGHBOUR: 'it returns false'. Refute it at one input. -/
def wordBackWrong : ChangeSpec := { name := "wordBack", fn := fun _ => fun
  | [d1, d2, d3, d4, d5] => { results := [.lit (.bool false)], args := [d1, d2, d3, d4, d5] }
  | _ => none }
def WordBackWrongFalsely : Prop := wordBackRow.holds Try.pinned (OpenSpec.ofChange wordBackWrong)

/-- 'lintellaw1.WordKnown': WHATEVER THE INPUT: true; the input reads as it did. -/
def wordKnownSpec : ChangeSpec := { name := "wordKnown", fn := fun _ => fun
  | [] => { results := [.lit (.bool true)], args := [] }
  | _ => none }
def wordKnownRow : OpenClaim := { program := "ytfcfegnfcgglaaa", sum := "df583f83d0dc693995ae6ad99fdb47b1784abc531b2ff37c5f801e416d1a475b", func := "lintel/lintellaw1.WordKnown", spec := "wordKnown", apart := false }
def WordKnownSaid : Prop := wordKnownRow.holds Try.pinned (OpenSpec.ofChange wordKnownSpec)

/-- ITS FALSE NEIGHBOUR: 'it returns false'. Refute it at one input. -/
def wordKnownWrong : ChangeSpec := { name := "wordKnown", fn := fun _ => fun
  | [] => { results := [.lit (.bool false)], args := [] }
  | _ => none }
def WordKnownWrongFalsely : Prop := wordKnownRow.holds Try.pinned (OpenSpec.ofChange wordKnownWrong)

/-- 'lintellaw1.WordSays': WHATEVER THE INPUT: true; the input reads as it did. -/
def wordSaysSpec : ChangeSpec := { name := "wordSays", fn := fun _ => fun
  | [d1, d2, d3, d4, d5, d6] => { results := [.lit (.bool true)], args := [d1, d2, d3, d4, d5, d6] }
  | _ => none }
def wordSaysRow : OpenClaim := { program := "ytfcfegnfcgglaaa", sum := "df583f83d0dc693995ae6ad99fdb47b1784abc531b2ff37c5f801e416d1a475b", func := "lintel/lintellaw1.WordSays", spec := "wordSays", apart := false }
def WordSaysSaid : Prop := wordSaysRow.holds Try.pinned (OpenSpec.ofChange wordSaysSpec)

/-- ITS FALSE NEIGHBOUR: 'it returns false'. Refute it at one input. -/
def wordSaysWrong : ChangeSpec := { name := "wordSays", fn := fun _ => fun
  | [d1, d2, d3, d4, d5, d6] => { results := [.lit (.bool false)], args := [d1, d2, d3, d4, d5, d6] }
  | _ => none }
def WordSaysWrongFalsely : Prop := wordSaysRow.holds Try.pinned (OpenSpec.ofChange wordSaysWrong)

/- THE SECOND FORM. 'bulk': how many values and letters a reading holds, each counted each time it is reached (what is shared counts as often as it is met; a slice's spare places count too). A statement '..UptoSaid' is the law's where the arguments, and the package variables that the reading takes, are together of bulk at most 1048576: NARROWER than '..Said'. Prove '..Said' where nothing that the law and all that it calls make is longer than what came in: it says more and counts as full. Else prove '..UptoSaid'. A law counts once. -/
mutual
def uptoBulk {H : Type} : DataW H → Nat
  | .lit (.string bytes) => bytes.length + 1
  | .lit _ => 1
  | .nil => 1
  | .ptr d => uptoBulk d + 1
  | .slice elems spare => uptoBulkAll elems + uptoBulkAll spare + 1
  | .agg parts => uptoBulkAll parts + 1
  | .iface _ d => uptoBulk d + 1
  | .map entries => uptoBulkEntries entries + 1
  | .held _ => 1
def uptoBulkAll {H : Type} : List (DataW H) → Nat
  | [] => 0
  | d :: r => uptoBulk d + uptoBulkAll r
def uptoBulkEntries {H : Type} : List (Lit × DataW H) → Nat
  | [] => 0
  | x :: r => uptoBulkEntry x + uptoBulkEntries r
def uptoBulkEntry {H : Type} : Lit × DataW H → Nat
  | (.string bytes, d) => bytes.length + uptoBulk d + 1
  | (_, d) => uptoBulk d + 1
 end
def uptoSmall : (H : Type) → List (DataW H) → Bool := fun _ ds => decide (uptoBulkAll ds ≤ 1048576)
def OpenSpec.upto (s : _root_.Go.ChangeSpec) : _root_.Go.OpenSpec := { _root_.Go.OpenSpec.ofChange s with cond := some uptoSmall }

/-- 'lintellaw2.SealSays', WHERE WHAT IT READS IS OF BULK AT MOST 1048576: true; the input reads as it did. -/
def sealSaysUptoRow : OpenClaim := { program := "ytfcfegnfcgglaaa", sum := "df583f83d0dc693995ae6ad99fdb47b1784abc531b2ff37c5f801e416d1a475b", func := "lintel/lintellaw2.SealSays", spec := "sealSays", apart := false, narrowed := true }
def SealSaysUptoSaid : Prop := sealSaysUptoRow.holds Try.pinned (OpenSpec.upto sealSaysSpec)

/-- 'lintellaw2.SealOne', WHERE WHAT IT READS IS OF BULK AT MOST 1048576: true; the input reads as it did. -/
def sealOneUptoRow : OpenClaim := { program := "ytfcfegnfcgglaaa", sum := "df583f83d0dc693995ae6ad99fdb47b1784abc531b2ff37c5f801e416d1a475b", func := "lintel/lintellaw2.SealOne", spec := "sealOne", apart := false, narrowed := true }
def SealOneUptoSaid : Prop := sealOneUptoRow.holds Try.pinned (OpenSpec.upto sealOneSpec)

/-- 'lintellaw2.SealOver', WHERE WHAT IT READS IS OF BULK AT MOST 1048576: true; the input reads as it did. -/
def sealOverUptoRow : OpenClaim := { program := "ytfcfegnfcgglaaa", sum := "df583f83d0dc693995ae6ad99fdb47b1784abc531b2ff37c5f801e416d1a475b", func := "lintel/lintellaw2.SealOver", spec := "sealOver", apart := false, narrowed := true }
def SealOverUptoSaid : Prop := sealOverUptoRow.holds Try.pinned (OpenSpec.upto sealOverSpec)

/-- 'lintellaw2.SealTwo', WHERE WHAT IT READS IS OF BULK AT MOST 1048576: true; the input reads as it did. -/
def sealTwoUptoRow : OpenClaim := { program := "ytfcfegnfcgglaaa", sum := "df583f83d0dc693995ae6ad99fdb47b1784abc531b2ff37c5f801e416d1a475b", func := "lintel/lintellaw2.SealTwo", spec := "sealTwo", apart := false, narrowed := true }
def SealTwoUptoSaid : Prop := sealTwoUptoRow.holds Try.pinned (OpenSpec.upto sealTwoSpec)

/-- 'lintellaw2.SealFits', WHERE WHAT IT READS IS OF BULK AT MOST 1048576: true; the input reads as it did. -/
def sealFitsUptoRow : OpenClaim := { program := "ytfcfegnfcgglaaa", sum := "df583f83d0dc693995ae6ad99fdb47b1784abc531b2ff37c5f801e416d1a475b", func := "lintel/lintellaw2.SealFits", spec := "sealFits", apart := false, narrowed := true }
def SealFitsUptoSaid : Prop := sealFitsUptoRow.holds Try.pinned (OpenSpec.upto sealFitsSpec)

/-- 'lintellaw1.WordBits', WHERE WHAT IT READS IS OF BULK AT MOST 1048576: true; the input reads as it did. -/
def wordBitsUptoRow : OpenClaim := { program := "ytfcfegnfcgglaaa", sum := "df583f83d0dc693995ae6ad99fdb47b1784abc531b2ff37c5f801e416d1a475b", func := "lintel/lintellaw1.WordBits", spec := "wordBits", apart := false, narrowed := true }
def WordBitsUptoSaid : Prop := wordBitsUptoRow.holds Try.pinned (OpenSpec.upto wordBitsSpec)

/-- 'lintellaw1.WordParts', WHERE WHAT IT READS IS OF BULK AT MOST 1048576: true; the input reads as it did. -/
def wordPartsUptoRow : OpenClaim := { program := "ytfcfegnfcgglaaa", sum := "df583f83d0dc693995ae6ad99fdb47b1784abc531b2ff37c5f801e416d1a475b", func := "lintel/lintellaw1.WordParts", spec := "wordParts", apart := false, narrowed := true }
def WordPartsUptoSaid : Prop := wordPartsUptoRow.holds Try.pinned (OpenSpec.upto wordPartsSpec)

/-- 'lintellaw1.WordTurns', WHERE WHAT IT READS IS OF BULK AT MOST 1048576: true; the input reads as it did. -/
def wordTurnsUptoRow : OpenClaim := { program := "ytfcfegnfcgglaaa", sum := "df583f83d0dc693995ae6ad99fdb47b1784abc531b2ff37c5f801e416d1a475b", func := "lintel/lintellaw1.WordTurns", spec := "wordTurns", apart := false, narrowed := true }
def WordTurnsUptoSaid : Prop := wordTurnsUptoRow.holds Try.pinned (OpenSpec.upto wordTurnsSpec)

/-- 'lintellaw1.WordBack', WHERE WHAT IT READS IS OF BULK AT MOST 1048576: true; the input reads as it did. -/
def wordBackUptoRow : OpenClaim := { program := "ytfcfegnfcgglaaa", sum := "df583f83d0dc693995ae6ad99fdb47b1784abc531b2ff37c5f801e416d1a475b", func := "lintel/lintellaw1.WordBack", spec := "wordBack", apart := false, narrowed := true }
def WordBackUptoSaid : Prop := wordBackUptoRow.holds Try.pinned (OpenSpec.upto wordBackSpec)

/-- 'lintellaw1.WordKnown', WHERE WHAT IT READS IS OF BULK AT MOST 1048576: true; the input reads as it did. -/
def wordKnownUptoRow : OpenClaim := { program := "ytfcfegnfcgglaaa", sum := "df583f83d0dc693995ae6ad99fdb47b1784abc531b2ff37c5f801e416d1a475b", func := "lintel/lintellaw1.WordKnown", spec := "wordKnown", apart := false, narrowed := true }
def WordKnownUptoSaid : Prop := wordKnownUptoRow.holds Try.pinned (OpenSpec.upto wordKnownSpec)

/-- 'lintellaw1.WordSays', WHERE WHAT IT READS IS OF BULK AT MOST 1048576: true; the input reads as it did. -/
def wordSaysUptoRow : OpenClaim := { program := "ytfcfegnfcgglaaa", sum := "df583f83d0dc693995ae6ad99fdb47b1784abc531b2ff37c5f801e416d1a475b", func := "lintel/lintellaw1.WordSays", spec := "wordSays", apart := false, narrowed := true }
def WordSaysUptoSaid : Prop := wordSaysUptoRow.holds Try.pinned (OpenSpec.upto wordSaysSpec)

end Rows
end Go.Proofs.Ytfcfegnfcgglaaa
