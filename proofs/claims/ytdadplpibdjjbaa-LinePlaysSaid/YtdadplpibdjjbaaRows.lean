/-
  No cell of these rows narrows 'for every input' (looked for: loops, veiled, ifaces, maps, wideKeys, modest, calm, conditions, laid).
  DERIVED. THE GIVEN ROWS OF THIS SEAT. 13 by the template 'for every input the law returns true; each argument reads behind the call as it read before'; 0 by the template 'total and deterministic' (their statements: YtdadplpibdjjbaaTotals.lean).
  GIVEN WITH THE SEED: the statements are not yours to turn. If you find one false, say at which input.
  Laid BY PROGRAM, IN A SANDBOX (cutbox-rows.mjs): the forced cells as the released guide's own fill.sh prints them over the translation e671d2c91412b695… (all of the seat's roots in one cut). By AI agents, Wed Nov 11 2026. No macro, syntax, notation, axiom, sorry.
-/
import Derived.Test.YtdadplpibdjjbaaChecked
import GoSem.Claim
import GoSem.ClaimJoined
import GoSem.ClaimMapViews
import Derived.JoinedTies
import Derived.KernelRfl
namespace Go.Proofs.Ytdadplpibdjjbaa
/- THE CELL 'sum', in the pinned program and in every row, IS THE sha256 OF THE DUMP (.gsa) THAT YtdadplpibdjjbaaProg.lean LOADS. Nothing in Lean hashes anything: it is a label: what it is worth is what the hold of that sum in a sandbox is worth. -/
noncomputable def Try.pinned : Pinned := { name := "ytdadplpibdjjbaa", sum := "e671d2c91412b695d655e8d932cccb70b240a4e0110f2278905de2a440751ce7", checked := Try.checked }
namespace Rows
def none {H : Type} : Left H := { results := [], args := [] }

/-- 'lintellaw3.LineKnown': WHATEVER THE INPUT: true; the input reads as it did. -/
def lineKnownSpec : ChangeSpec := { name := "lineKnown", fn := fun _ => fun
  | [] => { results := [.lit (.bool true)], args := [] }
  | _ => none }
def lineKnownRow : OpenClaim := { program := "ytdadplpibdjjbaa", sum := "e671d2c91412b695d655e8d932cccb70b240a4e0110f2278905de2a440751ce7", func := "lintel/lintellaw3.LineKnown", spec := "lineKnown", apart := false }
def LineKnownSaid : Prop := lineKnownRow.holds Try.pinned (OpenSpec.ofChange lineKnownSpec)

/-- ITS FALSE NEIGHBOUR: 'it returns false'. Refute it at one input. -/
def lineKnownWrong : ChangeSpec := { name := "lineKnown", fn := fun _ => fun
  | [] => { results := [.lit (.bool false)], args := [] }
  | _ => none }
def LineKnownWrongFalsely : Prop := lineKnownRow.holds Try.pinned (OpenSpec.ofChange lineKnownWrong)

/-- 'lintellaw3.LinePlays': WHATEVER THE INPUT: true; the input reads as it did. -/
def linePlaysSpec : ChangeSpec := { name := "linePlays", fn := fun _ => fun
  | [d1, d2] => { results := [.lit (.bool true)], args := [d1, d2] }
  | _ => none }
def linePlaysRow : OpenClaim := { program := "ytdadplpibdjjbaa", sum := "e671d2c91412b695d655e8d932cccb70b240a4e0110f2278905de2a440751ce7", func := "lintel/lintellaw3.LinePlays", spec := "linePlays", apart := false }
def LinePlaysSaid : Prop := linePlaysRow.holds Try.pinned (OpenSpec.ofChange linePlaysSpec)

/-- ITS FALSE NEIGHBOUR: 'it returns false'. Refute it at one input. -/
def linePlaysWrong : ChangeSpec := { name := "linePlays", fn := fun _ => fun
  | [d1, d2] => { results := [.lit (.bool false)], args := [d1, d2] }
  | _ => none }
def LinePlaysWrongFalsely : Prop := linePlaysRow.holds Try.pinned (OpenSpec.ofChange linePlaysWrong)

/-- 'lintellaw3.LineOrder': WHATEVER THE INPUT: true; the input reads as it did. -/
def lineOrderSpec : ChangeSpec := { name := "lineOrder", fn := fun _ => fun
  | [d1, d2] => { results := [.lit (.bool true)], args := [d1, d2] }
  | _ => none }
def lineOrderRow : OpenClaim := { program := "ytdadplpibdjjbaa", sum := "e671d2c91412b695d655e8d932cccb70b240a4e0110f2278905de2a440751ce7", func := "lintel/lintellaw3.LineOrder", spec := "lineOrder", apart := false }
def LineOrderSaid : Prop := lineOrderRow.holds Try.pinned (OpenSpec.ofChange lineOrderSpec)

/-- ITS FALSE NEIGHBOUR: 'it returns false'. Refute it at one input. -/
def lineOrderWrong : ChangeSpec := { name := "lineOrder", fn := fun _ => fun
  | [d1, d2] => { results := [.lit (.bool false)], args := [d1, d2] }
  | _ => none }
def LineOrderWrongFalsely : Prop := lineOrderRow.holds Try.pinned (OpenSpec.ofChange lineOrderWrong)

/-- 'lintellaw3.LineSure': WHATEVER THE INPUT: true; the input reads as it did. -/
def lineSureSpec : ChangeSpec := { name := "lineSure", fn := fun _ => fun
  | [d1, d2] => { results := [.lit (.bool true)], args := [d1, d2] }
  | _ => none }
def lineSureRow : OpenClaim := { program := "ytdadplpibdjjbaa", sum := "e671d2c91412b695d655e8d932cccb70b240a4e0110f2278905de2a440751ce7", func := "lintel/lintellaw3.LineSure", spec := "lineSure", apart := false }
def LineSureSaid : Prop := lineSureRow.holds Try.pinned (OpenSpec.ofChange lineSureSpec)

/-- ITS FALSE NEIGHBOUR: 'it returns false'. Refute it at one input. -/
def lineSureWrong : ChangeSpec := { name := "lineSure", fn := fun _ => fun
  | [d1, d2] => { results := [.lit (.bool false)], args := [d1, d2] }
  | _ => none }
def LineSureWrongFalsely : Prop := lineSureRow.holds Try.pinned (OpenSpec.ofChange lineSureWrong)

/-- 'lintellaw6.GeomMore': WHATEVER THE INPUT: true; the input reads as it did. -/
def geomMoreSpec : ChangeSpec := { name := "geomMore", fn := fun _ => fun
  | [d] => { results := [.lit (.bool true)], args := [d] }
  | _ => none }
def geomMoreRow : OpenClaim := { program := "ytdadplpibdjjbaa", sum := "e671d2c91412b695d655e8d932cccb70b240a4e0110f2278905de2a440751ce7", func := "lintel/lintellaw6.GeomMore", spec := "geomMore", apart := false }
def GeomMoreSaid : Prop := geomMoreRow.holds Try.pinned (OpenSpec.ofChange geomMoreSpec)

/-- ITS FALSE NEIGHBOUR: 'it returns false'. Refute it at one input. -/
def geomMoreWrong : ChangeSpec := { name := "geomMore", fn := fun _ => fun
  | [d] => { results := [.lit (.bool false)], args := [d] }
  | _ => none }
def GeomMoreWrongFalsely : Prop := geomMoreRow.holds Try.pinned (OpenSpec.ofChange geomMoreWrong)

/-- 'lintellaw6.GeomPlain': WHATEVER THE INPUT: true; the input reads as it did. -/
def geomPlainSpec : ChangeSpec := { name := "geomPlain", fn := fun _ => fun
  | [d] => { results := [.lit (.bool true)], args := [d] }
  | _ => none }
def geomPlainRow : OpenClaim := { program := "ytdadplpibdjjbaa", sum := "e671d2c91412b695d655e8d932cccb70b240a4e0110f2278905de2a440751ce7", func := "lintel/lintellaw6.GeomPlain", spec := "geomPlain", apart := false }
def GeomPlainSaid : Prop := geomPlainRow.holds Try.pinned (OpenSpec.ofChange geomPlainSpec)

/-- ITS FALSE NEIGHBOUR: 'it returns false'. Refute it at one input. -/
def geomPlainWrong : ChangeSpec := { name := "geomPlain", fn := fun _ => fun
  | [d] => { results := [.lit (.bool false)], args := [d] }
  | _ => none }
def GeomPlainWrongFalsely : Prop := geomPlainRow.holds Try.pinned (OpenSpec.ofChange geomPlainWrong)

/-- 'lintellaw11.BitsNext': WHATEVER THE INPUT: true; the input reads as it did. -/
def bitsNextSpec : ChangeSpec := { name := "bitsNext", fn := fun _ => fun
  | [d] => { results := [.lit (.bool true)], args := [d] }
  | _ => none }
def bitsNextRow : OpenClaim := { program := "ytdadplpibdjjbaa", sum := "e671d2c91412b695d655e8d932cccb70b240a4e0110f2278905de2a440751ce7", func := "lintel/lintellaw11.BitsNext", spec := "bitsNext", apart := false }
def BitsNextSaid : Prop := bitsNextRow.holds Try.pinned (OpenSpec.ofChange bitsNextSpec)

/-- ITS FALSE NEIGHBOUR: 'it returns false'. Refute it at one input. -/
def bitsNextWrong : ChangeSpec := { name := "bitsNext", fn := fun _ => fun
  | [d] => { results := [.lit (.bool false)], args := [d] }
  | _ => none }
def BitsNextWrongFalsely : Prop := bitsNextRow.holds Try.pinned (OpenSpec.ofChange bitsNextWrong)

/-- 'lintellaw6.GeomKnown': WHATEVER THE INPUT: true; the input reads as it did. -/
def geomKnownSpec : ChangeSpec := { name := "geomKnown", fn := fun _ => fun
  | [] => { results := [.lit (.bool true)], args := [] }
  | _ => none }
def geomKnownRow : OpenClaim := { program := "ytdadplpibdjjbaa", sum := "e671d2c91412b695d655e8d932cccb70b240a4e0110f2278905de2a440751ce7", func := "lintel/lintellaw6.GeomKnown", spec := "geomKnown", apart := false }
def GeomKnownSaid : Prop := geomKnownRow.holds Try.pinned (OpenSpec.ofChange geomKnownSpec)

/-- ITS FALSE NEIGHBOUR: 'it returns false'. Refute it at one input. -/
def geomKnownWrong : ChangeSpec := { name := "geomKnown", fn := fun _ => fun
  | [] => { results := [.lit (.bool false)], args := [] }
  | _ => none }
def GeomKnownWrongFalsely : Prop := geomKnownRow.holds Try.pinned (OpenSpec.ofChange geomKnownWrong)

/-- 'lintellaw6.GeomSays': WHATEVER THE INPUT: true; the input reads as it did. -/
def geomSaysSpec : ChangeSpec := { name := "geomSays", fn := fun _ => fun
  | [d1, d2, d3] => { results := [.lit (.bool true)], args := [d1, d2, d3] }
  | _ => none }
def geomSaysRow : OpenClaim := { program := "ytdadplpibdjjbaa", sum := "e671d2c91412b695d655e8d932cccb70b240a4e0110f2278905de2a440751ce7", func := "lintel/lintellaw6.GeomSays", spec := "geomSays", apart := false }
def GeomSaysSaid : Prop := geomSaysRow.holds Try.pinned (OpenSpec.ofChange geomSaysSpec)

/-- ITS FALSE NEIGHBOUR: 'it returns false'. Refute it at one input. -/
def geomSaysWrong : ChangeSpec := { name := "geomSays", fn := fun _ => fun
  | [d1, d2, d3] => { results := [.lit (.bool false)], args := [d1, d2, d3] }
  | _ => none }
def GeomSaysWrongFalsely : Prop := geomSaysRow.holds Try.pinned (OpenSpec.ofChange geomSaysWrong)

/-- 'lintellaw6.GeomParts': WHATEVER THE INPUT: true; the input reads as it did. -/
def geomPartsSpec : ChangeSpec := { name := "geomParts", fn := fun _ => fun
  | [d1, d2] => { results := [.lit (.bool true)], args := [d1, d2] }
  | _ => none }
def geomPartsRow : OpenClaim := { program := "ytdadplpibdjjbaa", sum := "e671d2c91412b695d655e8d932cccb70b240a4e0110f2278905de2a440751ce7", func := "lintel/lintellaw6.GeomParts", spec := "geomParts", apart := false }
def GeomPartsSaid : Prop := geomPartsRow.holds Try.pinned (OpenSpec.ofChange geomPartsSpec)

/-- ITS FALSE NEIGHBOUR: 'it returns false'. Refute it at one input. -/
def geomPartsWrong : ChangeSpec := { name := "geomParts", fn := fun _ => fun
  | [d1, d2] => { results := [.lit (.bool false)], args := [d1, d2] }
  | _ => none }
def GeomPartsWrongFalsely : Prop := geomPartsRow.holds Try.pinned (OpenSpec.ofChange geomPartsWrong)

/-- 'lintellaw11.BitsKnown': WHATEVER THE INPUT: true; the input reads as it did. -/
def bitsKnownSpec : ChangeSpec := { name := "bitsKnown", fn := fun _ => fun
  | [] => { results := [.lit (.bool true)], args := [] }
  | _ => none }
def bitsKnownRow : OpenClaim := { program := "ytdadplpibdjjbaa", sum := "e671d2c91412b695d655e8d932cccb70b240a4e0110f2278905de2a440751ce7", func := "lintel/lintellaw11.BitsKnown", spec := "bitsKnown", apart := false }
def BitsKnownSaid : Prop := bitsKnownRow.holds Try.pinned (OpenSpec.ofChange bitsKnownSpec)

/-- ITS FALSE NEIGHBOUR: 'it returns false'. Refute it at one input. -/
def bitsKnownWrong : ChangeSpec := { name := "bitsKnown", fn := fun _ => fun
  | [] => { results := [.lit (.bool false)], args := [] }
  | _ => none }
def BitsKnownWrongFalsely : Prop := bitsKnownRow.holds Try.pinned (OpenSpec.ofChange bitsKnownWrong)

/-- 'lintellaw11.BitsSays': WHATEVER THE INPUT: true; the input reads as it did. -/
def bitsSaysSpec : ChangeSpec := { name := "bitsSays", fn := fun _ => fun
  | [d1, d2, d3, d4, d5, d6] => { results := [.lit (.bool true)], args := [d1, d2, d3, d4, d5, d6] }
  | _ => none }
def bitsSaysRow : OpenClaim := { program := "ytdadplpibdjjbaa", sum := "e671d2c91412b695d655e8d932cccb70b240a4e0110f2278905de2a440751ce7", func := "lintel/lintellaw11.BitsSays", spec := "bitsSays", apart := false }
def BitsSaysSaid : Prop := bitsSaysRow.holds Try.pinned (OpenSpec.ofChange bitsSaysSpec)

/-- ITS FALSE NEIGHBOUR: 'it returns false'. Refute it at one input. -/
def bitsSaysWrong : ChangeSpec := { name := "bitsSays", fn := fun _ => fun
  | [d1, d2, d3, d4, d5, d6] => { results := [.lit (.bool false)], args := [d1, d2, d3, d4, d5, d6] }
  | _ => none }
def BitsSaysWrongFalsely : Prop := bitsSaysRow.holds Try.pinned (OpenSpec.ofChange bitsSaysWrong)

/-- 'lintellaw11.BitsRows': WHATEVER THE INPUT: true; the input reads as it did. -/
def bitsRowsSpec : ChangeSpec := { name := "bitsRows", fn := fun _ => fun
  | [d1, d2, d3] => { results := [.lit (.bool true)], args := [d1, d2, d3] }
  | _ => none }
def bitsRowsRow : OpenClaim := { program := "ytdadplpibdjjbaa", sum := "e671d2c91412b695d655e8d932cccb70b240a4e0110f2278905de2a440751ce7", func := "lintel/lintellaw11.BitsRows", spec := "bitsRows", apart := false }
def BitsRowsSaid : Prop := bitsRowsRow.holds Try.pinned (OpenSpec.ofChange bitsRowsSpec)

/-- ITS FALSE NEIGHBOUR: 'it returns false'. Refute it at one input. -/
def bitsRowsWrong : ChangeSpec := { name := "bitsRows", fn := fun _ => fun
  | [d1, d2, d3] => { results := [.lit (.bool false)], args := [d1, d2, d3] }
  | _ => none }
def BitsRowsWrongFalsely : Prop := bitsRowsRow.holds Try.pinned (OpenSpec.ofChange bitsRowsWrong)

/- THE SECOND FORM. 'bulk': how many values and letters a reading holds, each counted each time it is reached (what is shared counts as often as it is met; a slice's spare places count too). A statement '..UptoSaid' is the law's where the arguments, and the package variables that the reading takes, are together of bulk at most 1048576: NARROWER than '..Said'. Prove '..Said' where nothing that the law and all that it calls make is longer than what came in: it says more and counts as full. Else prove '..UptoSaid'. A law counts once. -/
mutual
def uptoBulk {H : Type} : DataW H → Nat
  | .lit (.string bytes) => bytes.length + 1
  | .lit _ => 1
  | .nil => 1
  | .ptr d => uptoBulk d + 1
  | .slice elems spare => uptoBulkAll elems + uptoBulkAll spare + 1
  | .agg parts => uptoBulkAll parts + 1
  | .iface _ d => uptoBulk d + 1
  | .map entries => uptoBulkEntries entries + 1
  | .held _ => 1
def uptoBulkAll {H : Type} : List (DataW H) → Nat
  | [] => 0
  | d :: r => uptoBulk d + uptoBulkAll r
def uptoBulkEntries {H : Type} : List (Lit × DataW H) → Nat
  | [] => 0
  | x :: r => uptoBulkEntry x + uptoBulkEntries r
def uptoBulkEntry {H : Type} : Lit × DataW H → Nat
  | (.string bytes, d) => bytes.length + uptoBulk d + 1
  | (_, d) => uptoBulk d + 1
 end
def uptoSmall : (H : Type) → List (DataW H) → Bool := fun _ ds => decide (uptoBulkAll ds ≤ 1048576)
def OpenSpec.upto (s : _root_.Go.ChangeSpec) : _root_.Go.OpenSpec := { _root_.Go.OpenSpec.ofChange s with cond := some uptoSmall }

/-- 'lintellaw3.LineKnown', WHERE WHAT IT READS IS OF BULK AT MOST 1048576: true; the input reads as it did. -/
def lineKnownUptoRow : OpenClaim := { program := "ytdadplpibdjjbaa", sum := "e671d2c91412b695d655e8d932cccb70b240a4e0110f2278905de2a440751ce7", func := "lintel/lintellaw3.LineKnown", spec := "lineKnown", apart := false, narrowed := true }
def LineKnownUptoSaid : Prop := lineKnownUptoRow.holds Try.pinned (OpenSpec.upto lineKnownSpec)

/-- 'lintellaw3.LinePlays', WHERE WHAT IT READS IS OF BULK AT MOST 1048576: true; the input reads as it did. -/
def linePlaysUptoRow : OpenClaim := { program := "ytdadplpibdjjbaa", sum := "e671d2c91412b695d655e8d932cccb70b240a4e0110f2278905de2a440751ce7", func := "lintel/lintellaw3.LinePlays", spec := "linePlays", apart := false, narrowed := true }
def LinePlaysUptoSaid : Prop := linePlaysUptoRow.holds Try.pinned (OpenSpec.upto linePlaysSpec)

/-- 'lintellaw3.LineOrder', WHERE WHAT IT READS IS OF BULK AT MOST 1048576: true; the input reads as it did. -/
def lineOrderUptoRow : OpenClaim := { program := "ytdadplpibdjjbaa", sum := "e671d2c91412b695d655e8d932cccb70b240a4e0110f2278905de2a440751ce7", func := "lintel/lintellaw3.LineOrder", spec := "lineOrder", apart := false, narrowed := true }
def LineOrderUptoSaid : Prop := lineOrderUptoRow.holds Try.pinned (OpenSpec.upto lineOrderSpec)

/-- 'lintellaw3.LineSure', WHERE WHAT IT READS IS OF BULK AT MOST 1048576: true; the input reads as it did. -/
def lineSureUptoRow : OpenClaim := { program := "ytdadplpibdjjbaa", sum := "e671d2c91412b695d655e8d932cccb70b240a4e0110f2278905de2a440751ce7", func := "lintel/lintellaw3.LineSure", spec := "lineSure", apart := false, narrowed := true }
def LineSureUptoSaid : Prop := lineSureUptoRow.holds Try.pinned (OpenSpec.upto lineSureSpec)

/-- 'lintellaw6.GeomMore', WHERE WHAT IT READS IS OF BULK AT MOST 1048576: true; the input reads as it did. -/
def geomMoreUptoRow : OpenClaim := { program := "ytdadplpibdjjbaa", sum := "e671d2c91412b695d655e8d932cccb70b240a4e0110f2278905de2a440751ce7", func := "lintel/lintellaw6.GeomMore", spec := "geomMore", apart := false, narrowed := true }
def GeomMoreUptoSaid : Prop := geomMoreUptoRow.holds Try.pinned (OpenSpec.upto geomMoreSpec)

/-- 'lintellaw6.GeomPlain', WHERE WHAT IT READS IS OF BULK AT MOST 1048576: true; the input reads as it did. -/
def geomPlainUptoRow : OpenClaim := { program := "ytdadplpibdjjbaa", sum := "e671d2c91412b695d655e8d932cccb70b240a4e0110f2278905de2a440751ce7", func := "lintel/lintellaw6.GeomPlain", spec := "geomPlain", apart := false, narrowed := true }
def GeomPlainUptoSaid : Prop := geomPlainUptoRow.holds Try.pinned (OpenSpec.upto geomPlainSpec)

/-- 'lintellaw11.BitsNext', WHERE WHAT IT READS IS OF BULK AT MOST 1048576: true; the input reads as it did. -/
def bitsNextUptoRow : OpenClaim := { program := "ytdadplpibdjjbaa", sum := "e671d2c91412b695d655e8d932cccb70b240a4e0110f2278905de2a440751ce7", func := "lintel/lintellaw11.BitsNext", spec := "bitsNext", apart := false, narrowed := true }
def BitsNextUptoSaid : Prop := bitsNextUptoRow.holds Try.pinned (OpenSpec.upto bitsNextSpec)

/-- 'lintellaw6.GeomKnown', WHERE WHAT IT READS IS OF BULK AT MOST 1048576: true; the input reads as it did. -/
def geomKnownUptoRow : OpenClaim := { program := "ytdadplpibdjjbaa", sum := "e671d2c91412b695d655e8d932cccb70b240a4e0110f2278905de2a440751ce7", func := "lintel/lintellaw6.GeomKnown", spec := "geomKnown", apart := false, narrowed := true }
def GeomKnownUptoSaid : Prop := geomKnownUptoRow.holds Try.pinned (OpenSpec.upto geomKnownSpec)

/-- 'lintellaw6.GeomSays', WHERE WHAT IT READS IS OF BULK AT MOST 1048576: true; the input reads as it did. -/
def geomSaysUptoRow : OpenClaim := { program := "ytdadplpibdjjbaa", sum := "e671d2c91412b695d655e8d932cccb70b240a4e0110f2278905de2a440751ce7", func := "lintel/lintellaw6.GeomSays", spec := "geomSays", apart := false, narrowed := true }
def GeomSaysUptoSaid : Prop := geomSaysUptoRow.holds Try.pinned (OpenSpec.upto geomSaysSpec)

/-- 'lintellaw6.GeomParts', WHERE WHAT IT READS IS OF BULK AT MOST 1048576: true; the input reads as it did. -/
def geomPartsUptoRow : OpenClaim := { program := "ytdadplpibdjjbaa", sum := "e671d2c91412b695d655e8d932cccb70b240a4e0110f2278905de2a440751ce7", func := "lintel/lintellaw6.GeomParts", spec := "geomParts", apart := false, narrowed := true }
def GeomPartsUptoSaid : Prop := geomPartsUptoRow.holds Try.pinned (OpenSpec.upto geomPartsSpec)

/-- 'lintellaw11.BitsKnown', WHERE WHAT IT READS IS OF BULK AT MOST 1048576: true; the input reads as it did. -/
def bitsKnownUptoRow : OpenClaim := { program := "ytdadplpibdjjbaa", sum := "e671d2c91412b695d655e8d932cccb70b240a4e0110f2278905de2a440751ce7", func := "lintel/lintellaw11.BitsKnown", spec := "bitsKnown", apart := false, narrowed := true }
def BitsKnownUptoSaid : Prop := bitsKnownUptoRow.holds Try.pinned (OpenSpec.upto bitsKnownSpec)

/-- 'lintellaw11.BitsSays', WHERE WHAT IT READS IS OF BULK AT MOST 1048576: true; the input reads as it did. -/
def bitsSaysUptoRow : OpenClaim := { program := "ytdadplpibdjjbaa", sum := "e671d2c91412b695d655e8d932cccb70b240a4e0110f2278905de2a440751ce7", func := "lintel/lintellaw11.BitsSays", spec := "bitsSays", apart := false, narrowed := true }
def BitsSaysUptoSaid : Prop := bitsSaysUptoRow.holds Try.pinned (OpenSpec.upto bitsSaysSpec)

/-- 'lintellaw11.BitsRows', WHERE WHAT IT READS IS OF BULK AT MOST 1048576: true; the input reads as it did. -/
def bitsRowsUptoRow : OpenClaim := { program := "ytdadplpibdjjbaa", sum := "e671d2c91412b695d655e8d932cccb70b240a4e0110f2278905de2a440751ce7", func := "lintel/lintellaw11.BitsRows", spec := "bitsRows", apart := false, narrowed := true }
def BitsRowsUptoSaid : Prop := bitsRowsUptoRow.holds Try.pinned (OpenSpec.upto bitsRowsSpec)

end Rows
end Go.Proofs.Ytdadplpibdjjbaa
