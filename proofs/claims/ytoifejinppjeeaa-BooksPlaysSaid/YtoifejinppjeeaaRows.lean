/-
  No cell of these rows narrows 'for every input' (looked for: loops, veiled, ifaces, maps, wideKeys, modest, calm, conditions, laid).
  DERIVED. THE GIVEN ROWS OF THIS SEAT. 16 by the template 'for every input the law returns true; each argument reads behind the call as it read before'; 0 by the template 'total and deterministic' (their statements: YtoifejinppjeeaaTotals.lean).
  GIVEN WITH THE SEED: the statements are not yours to turn. If you find one false, say at which input.
  Laid BY PROGRAM, IN A SANDBOX (cutbox-rows.mjs): the forced cells as the released guide's own fill.sh prints them over the translation af64919edd1424b2… (all of the seat's roots in one cut). By AI agents, Wed Nov 11 2026. No macro, syntax, notation, axiom, sorry.
-/
import Derived.Test.YtoifejinppjeeaaChecked
import GoSem.Claim
import GoSem.ClaimJoined
import GoSem.ClaimMapViews
import Derived.JoinedTies
import Derived.KernelRfl
namespace Go.Proofs.Ytoifejinppjeeaa
/- THE CELL 'sum', in the pinned program and in every row, IS THE sha256 OF THE DUMP (.gsa) THAT YtoifejinppjeeaaProg.lean LOADS. Nothing in Lean hashes anything: it is a label: what it is worth is what the hold of that sum in a sandbox is worth. -/
noncomputable def Try.pinned : Pinned := { name := "ytoifejinppjeeaa", sum := "af64919edd1424b297dca95be4e840fab3d03721b05d4c7f00cedbcb3e17e2f1", checked := Try.checked }
namespace Rows
def none {H : Type} : Left H := { results := [], args := [] }

/-- 'lintellaw5.SpanSubs': WHATEVER THE INPUT: true; the input reads as it did. -/
def spanSubsSpec : ChangeSpec := { name := "spanSubs", fn := fun _ => fun
  | [d1, d2, d3, d4, d5] => { results := [.lit (.bool true)], args := [d1, d2, d3, d4, d5] }
  | _ => none }
def spanSubsRow : OpenClaim := { program := "ytoifejinppjeeaa", sum := "af64919edd1424b297dca95be4e840fab3d03721b05d4c7f00cedbcb3e17e2f1", func := "lintel/lintellaw5.SpanSubs", spec := "spanSubs", unfollowed := true, recurses := true, apart := false }
def SpanSubsSaid : Prop := spanSubsRow.holds Try.pinned (OpenSpec.ofChange spanSubsSpec)

/-- ITS FALSE NEIGHBOUR: 'it returns false'. Refute it at one input. -/
def spanSubsWrong : ChangeSpec := { name := "spanSubs", fn := fun _ => fun
  | [d1, d2, d3, d4, d5] => { results := [.lit (.bool false)], args := [d1, d2, d3, d4, d5] }
  | _ => none }
def SpanSubsWrongFalsely : Prop := spanSubsRow.holds Try.pinned (OpenSpec.ofChange spanSubsWrong)

/-- 'lintellaw4.PmemSure': WHATEVER THE INPUT: true; the input reads as it did. -/
def pmemSureSpec : ChangeSpec := { name := "pmemSure", fn := fun _ => fun
  | [d1, d2, d3] => { results := [.lit (.bool true)], args := [d1, d2, d3] }
  | _ => none }
def pmemSureRow : OpenClaim := { program := "ytoifejinppjeeaa", sum := "af64919edd1424b297dca95be4e840fab3d03721b05d4c7f00cedbcb3e17e2f1", func := "lintel/lintellaw4.PmemSure", spec := "pmemSure", unfollowed := true, recurses := true, apart := false }
def PmemSureSaid : Prop := pmemSureRow.holds Try.pinned (OpenSpec.ofChange pmemSureSpec)

/-- ITS FALSE NEIGHBOUR: 'it returns false'. Refute it at one input. -/
def pmemSureWrong : ChangeSpec := { name := "pmemSure", fn := fun _ => fun
  | [d1, d2, d3] => { results := [.lit (.bool false)], args := [d1, d2, d3] }
  | _ => none }
def PmemSureWrongFalsely : Prop := pmemSureRow.holds Try.pinned (OpenSpec.ofChange pmemSureWrong)

/-- 'lintellaw4.PmemAtom': WHATEVER THE INPUT: true; the input reads as it did. -/
def pmemAtomSpec : ChangeSpec := { name := "pmemAtom", fn := fun _ => fun
  | [d1, d2] => { results := [.lit (.bool true)], args := [d1, d2] }
  | _ => none }
def pmemAtomRow : OpenClaim := { program := "ytoifejinppjeeaa", sum := "af64919edd1424b297dca95be4e840fab3d03721b05d4c7f00cedbcb3e17e2f1", func := "lintel/lintellaw4.PmemAtom", spec := "pmemAtom", unfollowed := true, recurses := true, apart := false }
def PmemAtomSaid : Prop := pmemAtomRow.holds Try.pinned (OpenSpec.ofChange pmemAtomSpec)

/-- ITS FALSE NEIGHBOUR: 'it returns false'. Refute it at one input. -/
def pmemAtomWrong : ChangeSpec := { name := "pmemAtom", fn := fun _ => fun
  | [d1, d2] => { results := [.lit (.bool false)], args := [d1, d2] }
  | _ => none }
def PmemAtomWrongFalsely : Prop := pmemAtomRow.holds Try.pinned (OpenSpec.ofChange pmemAtomWrong)

/-- 'lintellaw4.PmemFuse': WHATEVER THE INPUT: true; the input reads as it did. -/
def pmemFuseSpec : ChangeSpec := { name := "pmemFuse", fn := fun _ => fun
  | [d1, d2, d3] => { results := [.lit (.bool true)], args := [d1, d2, d3] }
  | _ => none }
def pmemFuseRow : OpenClaim := { program := "ytoifejinppjeeaa", sum := "af64919edd1424b297dca95be4e840fab3d03721b05d4c7f00cedbcb3e17e2f1", func := "lintel/lintellaw4.PmemFuse", spec := "pmemFuse", unfollowed := true, recurses := true, apart := false }
def PmemFuseSaid : Prop := pmemFuseRow.holds Try.pinned (OpenSpec.ofChange pmemFuseSpec)

/-- ITS FALSE NEIGHBOUR: 'it returns false'. Refute it at one input. -/
def pmemFuseWrong : ChangeSpec := { name := "pmemFuse", fn := fun _ => fun
  | [d1, d2, d3] => { results := [.lit (.bool false)], args := [d1, d2, d3] }
  | _ => none }
def PmemFuseWrongFalsely : Prop := pmemFuseRow.holds Try.pinned (OpenSpec.ofChange pmemFuseWrong)

/-- 'lintellaw4.PmemKnown': WHATEVER THE INPUT: true; the input reads as it did. -/
def pmemKnownSpec : ChangeSpec := { name := "pmemKnown", fn := fun _ => fun
  | [] => { results := [.lit (.bool true)], args := [] }
  | _ => none }
def pmemKnownRow : OpenClaim := { program := "ytoifejinppjeeaa", sum := "af64919edd1424b297dca95be4e840fab3d03721b05d4c7f00cedbcb3e17e2f1", func := "lintel/lintellaw4.PmemKnown", spec := "pmemKnown", unfollowed := true, recurses := true, apart := false }
def PmemKnownSaid : Prop := pmemKnownRow.holds Try.pinned (OpenSpec.ofChange pmemKnownSpec)

/-- ITS FALSE NEIGHBOUR: 'it returns false'. Refute it at one input. -/
def pmemKnownWrong : ChangeSpec := { name := "pmemKnown", fn := fun _ => fun
  | [] => { results := [.lit (.bool false)], args := [] }
  | _ => none }
def PmemKnownWrongFalsely : Prop := pmemKnownRow.holds Try.pinned (OpenSpec.ofChange pmemKnownWrong)

/-- 'lintellaw4.PmemPlays': WHATEVER THE INPUT: true; the input reads as it did. -/
def pmemPlaysSpec : ChangeSpec := { name := "pmemPlays", fn := fun _ => fun
  | [d1, d2] => { results := [.lit (.bool true)], args := [d1, d2] }
  | _ => none }
def pmemPlaysRow : OpenClaim := { program := "ytoifejinppjeeaa", sum := "af64919edd1424b297dca95be4e840fab3d03721b05d4c7f00cedbcb3e17e2f1", func := "lintel/lintellaw4.PmemPlays", spec := "pmemPlays", unfollowed := true, recurses := true, apart := false }
def PmemPlaysSaid : Prop := pmemPlaysRow.holds Try.pinned (OpenSpec.ofChange pmemPlaysSpec)

/-- ITS FALSE NEIGHBOUR: 'it returns false'. Refute it at one input. -/
def pmemPlaysWrong : ChangeSpec := { name := "pmemPlays", fn := fun _ => fun
  | [d1, d2] => { results := [.lit (.bool false)], args := [d1, d2] }
  | _ => none }
def PmemPlaysWrongFalsely : Prop := pmemPlaysRow.holds Try.pinned (OpenSpec.ofChange pmemPlaysWrong)

/-- 'lintellaw5.SpanKnown': WHATEVER THE INPUT: true; the input reads as it did. -/
def spanKnownSpec : ChangeSpec := { name := "spanKnown", fn := fun _ => fun
  | [] => { results := [.lit (.bool true)], args := [] }
  | _ => none }
def spanKnownRow : OpenClaim := { program := "ytoifejinppjeeaa", sum := "af64919edd1424b297dca95be4e840fab3d03721b05d4c7f00cedbcb3e17e2f1", func := "lintel/lintellaw5.SpanKnown", spec := "spanKnown", unfollowed := true, recurses := true, apart := false }
def SpanKnownSaid : Prop := spanKnownRow.holds Try.pinned (OpenSpec.ofChange spanKnownSpec)

/-- ITS FALSE NEIGHBOUR: 'it returns false'. Refute it at one input. -/
def spanKnownWrong : ChangeSpec := { name := "spanKnown", fn := fun _ => fun
  | [] => { results := [.lit (.bool false)], args := [] }
  | _ => none }
def SpanKnownWrongFalsely : Prop := spanKnownRow.holds Try.pinned (OpenSpec.ofChange spanKnownWrong)

/-- 'lintellaw5.SpanSays': WHATEVER THE INPUT: true; the input reads as it did. -/
def spanSaysSpec : ChangeSpec := { name := "spanSays", fn := fun _ => fun
  | [d1, d2, d3, d4, d5, d6] => { results := [.lit (.bool true)], args := [d1, d2, d3, d4, d5, d6] }
  | _ => none }
def spanSaysRow : OpenClaim := { program := "ytoifejinppjeeaa", sum := "af64919edd1424b297dca95be4e840fab3d03721b05d4c7f00cedbcb3e17e2f1", func := "lintel/lintellaw5.SpanSays", spec := "spanSays", unfollowed := true, recurses := true, apart := false }
def SpanSaysSaid : Prop := spanSaysRow.holds Try.pinned (OpenSpec.ofChange spanSaysSpec)

/-- ITS FALSE NEIGHBOUR: 'it returns false'. Refute it at one input. -/
def spanSaysWrong : ChangeSpec := { name := "spanSays", fn := fun _ => fun
  | [d1, d2, d3, d4, d5, d6] => { results := [.lit (.bool false)], args := [d1, d2, d3, d4, d5, d6] }
  | _ => none }
def SpanSaysWrongFalsely : Prop := spanSaysRow.holds Try.pinned (OpenSpec.ofChange spanSaysWrong)

/-- 'lintellaw5.SpanPushes': WHATEVER THE INPUT: true; the input reads as it did. -/
def spanPushesSpec : ChangeSpec := { name := "spanPushes", fn := fun _ => fun
  | [d1, d2, d3, d4] => { results := [.lit (.bool true)], args := [d1, d2, d3, d4] }
  | _ => none }
def spanPushesRow : OpenClaim := { program := "ytoifejinppjeeaa", sum := "af64919edd1424b297dca95be4e840fab3d03721b05d4c7f00cedbcb3e17e2f1", func := "lintel/lintellaw5.SpanPushes", spec := "spanPushes", unfollowed := true, recurses := true, apart := false }
def SpanPushesSaid : Prop := spanPushesRow.holds Try.pinned (OpenSpec.ofChange spanPushesSpec)

/-- ITS FALSE NEIGHBOUR: 'it returns false'. Refute it at one input. -/
def spanPushesWrong : ChangeSpec := { name := "spanPushes", fn := fun _ => fun
  | [d1, d2, d3, d4] => { results := [.lit (.bool false)], args := [d1, d2, d3, d4] }
  | _ => none }
def SpanPushesWrongFalsely : Prop := spanPushesRow.holds Try.pinned (OpenSpec.ofChange spanPushesWrong)

/-- 'lintellaw14.BookAgain': WHATEVER THE INPUT: true; the input reads as it did. -/
def bookAgainSpec : ChangeSpec := { name := "bookAgain", fn := fun _ => fun
  | [d] => { results := [.lit (.bool true)], args := [d] }
  | _ => none }
def bookAgainRow : OpenClaim := { program := "ytoifejinppjeeaa", sum := "af64919edd1424b297dca95be4e840fab3d03721b05d4c7f00cedbcb3e17e2f1", func := "lintel/lintellaw14.BookAgain", spec := "bookAgain", unfollowed := true, recurses := true, apart := false }
def BookAgainSaid : Prop := bookAgainRow.holds Try.pinned (OpenSpec.ofChange bookAgainSpec)

/-- ITS FALSE NEIGHBOUR: 'it returns false'. Refute it at one input. -/
def bookAgainWrong : ChangeSpec := { name := "bookAgain", fn := fun _ => fun
  | [d] => { results := [.lit (.bool false)], args := [d] }
  | _ => none }
def BookAgainWrongFalsely : Prop := bookAgainRow.holds Try.pinned (OpenSpec.ofChange bookAgainWrong)

/-- 'lintellaw14.BookRoom': WHATEVER THE INPUT: true; the input reads as it did. -/
def bookRoomSpec : ChangeSpec := { name := "bookRoom", fn := fun _ => fun
  | [d] => { results := [.lit (.bool true)], args := [d] }
  | _ => none }
def bookRoomRow : OpenClaim := { program := "ytoifejinppjeeaa", sum := "af64919edd1424b297dca95be4e840fab3d03721b05d4c7f00cedbcb3e17e2f1", func := "lintel/lintellaw14.BookRoom", spec := "bookRoom", unfollowed := true, recurses := true, apart := false }
def BookRoomSaid : Prop := bookRoomRow.holds Try.pinned (OpenSpec.ofChange bookRoomSpec)

/-- ITS FALSE NEIGHBOUR: 'it returns false'. Refute it at one input. -/
def bookRoomWrong : ChangeSpec := { name := "bookRoom", fn := fun _ => fun
  | [d] => { results := [.lit (.bool false)], args := [d] }
  | _ => none }
def BookRoomWrongFalsely : Prop := bookRoomRow.holds Try.pinned (OpenSpec.ofChange bookRoomWrong)

/-- 'lintellaw14.BookKnown': WHATEVER THE INPUT: true; the input reads as it did. -/
def bookKnownSpec : ChangeSpec := { name := "bookKnown", fn := fun _ => fun
  | [] => { results := [.lit (.bool true)], args := [] }
  | _ => none }
def bookKnownRow : OpenClaim := { program := "ytoifejinppjeeaa", sum := "af64919edd1424b297dca95be4e840fab3d03721b05d4c7f00cedbcb3e17e2f1", func := "lintel/lintellaw14.BookKnown", spec := "bookKnown", unfollowed := true, recurses := true, apart := false }
def BookKnownSaid : Prop := bookKnownRow.holds Try.pinned (OpenSpec.ofChange bookKnownSpec)

/-- ITS FALSE NEIGHBOUR: 'it returns false'. Refute it at one input. -/
def bookKnownWrong : ChangeSpec := { name := "bookKnown", fn := fun _ => fun
  | [] => { results := [.lit (.bool false)], args := [] }
  | _ => none }
def BookKnownWrongFalsely : Prop := bookKnownRow.holds Try.pinned (OpenSpec.ofChange bookKnownWrong)

/-- 'lintellaw14.BookFalls': WHATEVER THE INPUT: true; the input reads as it did. -/
def bookFallsSpec : ChangeSpec := { name := "bookFalls", fn := fun _ => fun
  | [d1, d2, d3, d4, d5] => { results := [.lit (.bool true)], args := [d1, d2, d3, d4, d5] }
  | _ => none }
def bookFallsRow : OpenClaim := { program := "ytoifejinppjeeaa", sum := "af64919edd1424b297dca95be4e840fab3d03721b05d4c7f00cedbcb3e17e2f1", func := "lintel/lintellaw14.BookFalls", spec := "bookFalls", unfollowed := true, recurses := true, apart := false }
def BookFallsSaid : Prop := bookFallsRow.holds Try.pinned (OpenSpec.ofChange bookFallsSpec)

/-- ITS FALSE NEIGHBOUR: 'it returns false'. Refute it at one input. -/
def bookFallsWrong : ChangeSpec := { name := "bookFalls", fn := fun _ => fun
  | [d1, d2, d3, d4, d5] => { results := [.lit (.bool false)], args := [d1, d2, d3, d4, d5] }
  | _ => none }
def BookFallsWrongFalsely : Prop := bookFallsRow.holds Try.pinned (OpenSpec.ofChange bookFallsWrong)

/-- 'lintellaw15.BooksOrder': WHATEVER THE INPUT: true; the input reads as it did. -/
def booksOrderSpec : ChangeSpec := { name := "booksOrder", fn := fun _ => fun
  | [d] => { results := [.lit (.bool true)], args := [d] }
  | _ => none }
def booksOrderRow : OpenClaim := { program := "ytoifejinppjeeaa", sum := "af64919edd1424b297dca95be4e840fab3d03721b05d4c7f00cedbcb3e17e2f1", func := "lintel/lintellaw15.BooksOrder", spec := "booksOrder", unfollowed := true, recurses := true, apart := false }
def BooksOrderSaid : Prop := booksOrderRow.holds Try.pinned (OpenSpec.ofChange booksOrderSpec)

/-- ITS FALSE NEIGHBOUR: 'it returns false'. Refute it at one input. -/
def booksOrderWrong : ChangeSpec := { name := "booksOrder", fn := fun _ => fun
  | [d] => { results := [.lit (.bool false)], args := [d] }
  | _ => none }
def BooksOrderWrongFalsely : Prop := booksOrderRow.holds Try.pinned (OpenSpec.ofChange booksOrderWrong)

/-- 'lintellaw15.BooksKnown': WHATEVER THE INPUT: true; the input reads as it did. -/
def booksKnownSpec : ChangeSpec := { name := "booksKnown", fn := fun _ => fun
  | [] => { results := [.lit (.bool true)], args := [] }
  | _ => none }
def booksKnownRow : OpenClaim := { program := "ytoifejinppjeeaa", sum := "af64919edd1424b297dca95be4e840fab3d03721b05d4c7f00cedbcb3e17e2f1", func := "lintel/lintellaw15.BooksKnown", spec := "booksKnown", unfollowed := true, recurses := true, apart := false }
def BooksKnownSaid : Prop := booksKnownRow.holds Try.pinned (OpenSpec.ofChange booksKnownSpec)

/-- ITS FALSE NEIGHBOUR: 'it returns false'. Refute it at one input. -/
def booksKnownWrong : ChangeSpec := { name := "booksKnown", fn := fun _ => fun
  | [] => { results := [.lit (.bool false)], args := [] }
  | _ => none }
def BooksKnownWrongFalsely : Prop := booksKnownRow.holds Try.pinned (OpenSpec.ofChange booksKnownWrong)

/-- 'lintellaw15.BooksPlays': WHATEVER THE INPUT: true; the input reads as it did. -/
def booksPlaysSpec : ChangeSpec := { name := "booksPlays", fn := fun _ => fun
  | [d1, d2] => { results := [.lit (.bool true)], args := [d1, d2] }
  | _ => none }
def booksPlaysRow : OpenClaim := { program := "ytoifejinppjeeaa", sum := "af64919edd1424b297dca95be4e840fab3d03721b05d4c7f00cedbcb3e17e2f1", func := "lintel/lintellaw15.BooksPlays", spec := "booksPlays", unfollowed := true, recurses := true, apart := false }
def BooksPlaysSaid : Prop := booksPlaysRow.holds Try.pinned (OpenSpec.ofChange booksPlaysSpec)

/-- ITS FALSE NEIGHBOUR: 'it returns false'. Refute it at one input. -/
def booksPlaysWrong : ChangeSpec := { name := "booksPlays", fn := fun _ => fun
  | [d1, d2] => { results := [.lit (.bool false)], args := [d1, d2] }
  | _ => none }
def BooksPlaysWrongFalsely : Prop := booksPlaysRow.holds Try.pinned (OpenSpec.ofChange booksPlaysWrong)

/- THE SECOND FORM. 'bulk': how many values and letters a reading holds, each counted each time it is reached (what is shared counts as often as it is met; a slice's spare places count too). A statement '..UptoSaid' is the law's where the arguments, and the package variables that the reading takes, are together of bulk at most 1048576: NARROWER than '..Said'. Prove '..Said' where nothing that the law and all that it calls make is longer than what came in: it says more and counts as full. Else prove '..UptoSaid'. A law counts once. -/
mutual
def uptoBulk {H : Type} : DataW H → Nat
  | .lit (.string bytes) => bytes.length + 1
  | .lit _ => 1
  | .nil => 1
  | .ptr d => uptoBulk d + 1
  | .slice elems spare => uptoBulkAll elems + uptoBulkAll spare + 1
  | .agg parts => uptoBulkAll parts + 1
  | .iface _ d => uptoBulk d + 1
  | .map entries => uptoBulkEntries entries + 1
  | .held _ => 1
def uptoBulkAll {H : Type} : List (DataW H) → Nat
  | [] => 0
  | d :: r => uptoBulk d + uptoBulkAll r
def uptoBulkEntries {H : Type} : List (Lit × DataW H) → Nat
  | [] => 0
  | x :: r => uptoBulkEntry x + uptoBulkEntries r
def uptoBulkEntry {H : Type} : Lit × DataW H → Nat
  | (.string bytes, d) => bytes.length + uptoBulk d + 1
  | (_, d) => uptoBulk d + 1
 end
def uptoSmall : (H : Type) → List (DataW H) → Bool := fun _ ds => decide (uptoBulkAll ds ≤ 1048576)
def OpenSpec.upto (s : _root_.Go.ChangeSpec) : _root_.Go.OpenSpec := { _root_.Go.OpenSpec.ofChange s with cond := some uptoSmall }

/-- 'lintellaw5.SpanSubs', WHERE WHAT IT READS IS OF BULK AT MOST 1048576: true; the input reads as it did. -/
def spanSubsUptoRow : OpenClaim := { program := "ytoifejinppjeeaa", sum := "af64919edd1424b297dca95be4e840fab3d03721b05d4c7f00cedbcb3e17e2f1", func := "lintel/lintellaw5.SpanSubs", spec := "spanSubs", unfollowed := true, recurses := true, apart := false, narrowed := true }
def SpanSubsUptoSaid : Prop := spanSubsUptoRow.holds Try.pinned (OpenSpec.upto spanSubsSpec)

/-- 'lintellaw4.PmemSure', WHERE WHAT IT READS IS OF BULK AT MOST 1048576: true; the input reads as it did. -/
def pmemSureUptoRow : OpenClaim := { program := "ytoifejinppjeeaa", sum := "af64919edd1424b297dca95be4e840fab3d03721b05d4c7f00cedbcb3e17e2f1", func := "lintel/lintellaw4.PmemSure", spec := "pmemSure", unfollowed := true, recurses := true, apart := false, narrowed := true }
def PmemSureUptoSaid : Prop := pmemSureUptoRow.holds Try.pinned (OpenSpec.upto pmemSureSpec)

/-- 'lintellaw4.PmemAtom', WHERE WHAT IT READS IS OF BULK AT MOST 1048576: true; the input reads as it did. -/
def pmemAtomUptoRow : OpenClaim := { program := "ytoifejinppjeeaa", sum := "af64919edd1424b297dca95be4e840fab3d03721b05d4c7f00cedbcb3e17e2f1", func := "lintel/lintellaw4.PmemAtom", spec := "pmemAtom", unfollowed := true, recurses := true, apart := false, narrowed := true }
def PmemAtomUptoSaid : Prop := pmemAtomUptoRow.holds Try.pinned (OpenSpec.upto pmemAtomSpec)

/-- 'lintellaw4.PmemFuse', WHERE WHAT IT READS IS OF BULK AT MOST 1048576: true; the input reads as it did. -/
def pmemFuseUptoRow : OpenClaim := { program := "ytoifejinppjeeaa", sum := "af64919edd1424b297dca95be4e840fab3d03721b05d4c7f00cedbcb3e17e2f1", func := "lintel/lintellaw4.PmemFuse", spec := "pmemFuse", unfollowed := true, recurses := true, apart := false, narrowed := true }
def PmemFuseUptoSaid : Prop := pmemFuseUptoRow.holds Try.pinned (OpenSpec.upto pmemFuseSpec)

/-- 'lintellaw4.PmemKnown', WHERE WHAT IT READS IS OF BULK AT MOST 1048576: true; the input reads as it did. -/
def pmemKnownUptoRow : OpenClaim := { program := "ytoifejinppjeeaa", sum := "af64919edd1424b297dca95be4e840fab3d03721b05d4c7f00cedbcb3e17e2f1", func := "lintel/lintellaw4.PmemKnown", spec := "pmemKnown", unfollowed := true, recurses := true, apart := false, narrowed := true }
def PmemKnownUptoSaid : Prop := pmemKnownUptoRow.holds Try.pinned (OpenSpec.upto pmemKnownSpec)

/-- 'lintellaw4.PmemPlays', WHERE WHAT IT READS IS OF BULK AT MOST 1048576: true; the input reads as it did. -/
def pmemPlaysUptoRow : OpenClaim := { program := "ytoifejinppjeeaa", sum := "af64919edd1424b297dca95be4e840fab3d03721b05d4c7f00cedbcb3e17e2f1", func := "lintel/lintellaw4.PmemPlays", spec := "pmemPlays", unfollowed := true, recurses := true, apart := false, narrowed := true }
def PmemPlaysUptoSaid : Prop := pmemPlaysUptoRow.holds Try.pinned (OpenSpec.upto pmemPlaysSpec)

/-- 'lintellaw5.SpanKnown', WHERE WHAT IT READS IS OF BULK AT MOST 1048576: true; the input reads as it did. -/
def spanKnownUptoRow : OpenClaim := { program := "ytoifejinppjeeaa", sum := "af64919edd1424b297dca95be4e840fab3d03721b05d4c7f00cedbcb3e17e2f1", func := "lintel/lintellaw5.SpanKnown", spec := "spanKnown", unfollowed := true, recurses := true, apart := false, narrowed := true }
def SpanKnownUptoSaid : Prop := spanKnownUptoRow.holds Try.pinned (OpenSpec.upto spanKnownSpec)

/-- 'lintellaw5.SpanSays', WHERE WHAT IT READS IS OF BULK AT MOST 1048576: true; the input reads as it did. -/
def spanSaysUptoRow : OpenClaim := { program := "ytoifejinppjeeaa", sum := "af64919edd1424b297dca95be4e840fab3d03721b05d4c7f00cedbcb3e17e2f1", func := "lintel/lintellaw5.SpanSays", spec := "spanSays", unfollowed := true, recurses := true, apart := false, narrowed := true }
def SpanSaysUptoSaid : Prop := spanSaysUptoRow.holds Try.pinned (OpenSpec.upto spanSaysSpec)

/-- 'lintellaw5.SpanPushes', WHERE WHAT IT READS IS OF BULK AT MOST 1048576: true; the input reads as it did. -/
def spanPushesUptoRow : OpenClaim := { program := "ytoifejinppjeeaa", sum := "af64919edd1424b297dca95be4e840fab3d03721b05d4c7f00cedbcb3e17e2f1", func := "lintel/lintellaw5.SpanPushes", spec := "spanPushes", unfollowed := true, recurses := true, apart := false, narrowed := true }
def SpanPushesUptoSaid : Prop := spanPushesUptoRow.holds Try.pinned (OpenSpec.upto spanPushesSpec)

/-- 'lintellaw14.BookAgain', WHERE WHAT IT READS IS OF BULK AT MOST 1048576: true; the input reads as it did. -/
def bookAgainUptoRow : OpenClaim := { program := "ytoifejinppjeeaa", sum := "af64919edd1424b297dca95be4e840fab3d03721b05d4c7f00cedbcb3e17e2f1", func := "lintel/lintellaw14.BookAgain", spec := "bookAgain", unfollowed := true, recurses := true, apart := false, narrowed := true }
def BookAgainUptoSaid : Prop := bookAgainUptoRow.holds Try.pinned (OpenSpec.upto bookAgainSpec)

/-- 'lintellaw14.BookRoom', WHERE WHAT IT READS IS OF BULK AT MOST 1048576: true; the input reads as it did. -/
def bookRoomUptoRow : OpenClaim := { program := "ytoifejinppjeeaa", sum := "af64919edd1424b297dca95be4e840fab3d03721b05d4c7f00cedbcb3e17e2f1", func := "lintel/lintellaw14.BookRoom", spec := "bookRoom", unfollowed := true, recurses := true, apart := false, narrowed := true }
def BookRoomUptoSaid : Prop := bookRoomUptoRow.holds Try.pinned (OpenSpec.upto bookRoomSpec)

/-- 'lintellaw14.BookKnown', WHERE WHAT IT READS IS OF BULK AT MOST 1048576: true; the input reads as it did. -/
def bookKnownUptoRow : OpenClaim := { program := "ytoifejinppjeeaa", sum := "af64919edd1424b297dca95be4e840fab3d03721b05d4c7f00cedbcb3e17e2f1", func := "lintel/lintellaw14.BookKnown", spec := "bookKnown", unfollowed := true, recurses := true, apart := false, narrowed := true }
def BookKnownUptoSaid : Prop := bookKnownUptoRow.holds Try.pinned (OpenSpec.upto bookKnownSpec)

/-- 'lintellaw14.BookFalls', WHERE WHAT IT READS IS OF BULK AT MOST 1048576: true; the input reads as it did. -/
def bookFallsUptoRow : OpenClaim := { program := "ytoifejinppjeeaa", sum := "af64919edd1424b297dca95be4e840fab3d03721b05d4c7f00cedbcb3e17e2f1", func := "lintel/lintellaw14.BookFalls", spec := "bookFalls", unfollowed := true, recurses := true, apart := false, narrowed := true }
def BookFallsUptoSaid : Prop := bookFallsUptoRow.holds Try.pinned (OpenSpec.upto bookFallsSpec)

/-- 'lintellaw15.BooksOrder', WHERE WHAT IT READS IS OF BULK AT MOST 1048576: true; the input reads as it did. -/
def booksOrderUptoRow : OpenClaim := { program := "ytoifejinppjeeaa", sum := "af64919edd1424b297dca95be4e840fab3d03721b05d4c7f00cedbcb3e17e2f1", func := "lintel/lintellaw15.BooksOrder", spec := "booksOrder", unfollowed := true, recurses := true, apart := false, narrowed := true }
def BooksOrderUptoSaid : Prop := booksOrderUptoRow.holds Try.pinned (OpenSpec.upto booksOrderSpec)

/-- 'lintellaw15.BooksKnown', WHERE WHAT IT READS IS OF BULK AT MOST 1048576: true; the input reads as it did. -/
def booksKnownUptoRow : OpenClaim := { program := "ytoifejinppjeeaa", sum := "af64919edd1424b297dca95be4e840fab3d03721b05d4c7f00cedbcb3e17e2f1", func := "lintel/lintellaw15.BooksKnown", spec := "booksKnown", unfollowed := true, recurses := true, apart := false, narrowed := true }
def BooksKnownUptoSaid : Prop := booksKnownUptoRow.holds Try.pinned (OpenSpec.upto booksKnownSpec)

/-- 'lintellaw15.BooksPlays', WHERE WHAT IT READS IS OF BULK AT MOST 1048576: true; the input reads as it did. -/
def booksPlaysUptoRow : OpenClaim := { program := "ytoifejinppjeeaa", sum := "af64919edd1424b297dca95be4e840fab3d03721b05d4c7f00cedbcb3e17e2f1", func := "lintel/lintellaw15.BooksPlays", spec := "booksPlays", unfollowed := true, recurses := true, apart := false, narrowed := true }
def BooksPlaysUptoSaid : Prop := booksPlaysUptoRow.holds Try.pinned (OpenSpec.upto booksPlaysSpec)

end Rows
end Go.Proofs.Ytoifejinppjeeaa
