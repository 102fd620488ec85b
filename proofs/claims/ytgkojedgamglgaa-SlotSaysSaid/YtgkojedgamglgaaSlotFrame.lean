/- A slot (an int and a string) that came in, opened and shut. No condition. -/
import Derived.Test.YtgkojedgamglgaaFrame
import Derived.Test.YtgkojedgamglgaaFrame3
import Derived.Lib.SmallJoins
namespace Go.Proofs.Ytgkojedgamglgaa
open Go.ChangeShapes Go.WideShapes Go.ChangeAt Go.RowKit Go.Deep
set_option linter.unusedVariables false
set_option linter.unusedSimpArgs false
section
variable {H : Type} {enc : TypeId × Value → H} {P : Program} {w : World} {base : Nat} {spare : Nat → Bool} {held : Bool}
theorem open_slot {r : Reach} {b0 : Nat} {t : TypeId} {f0 f1 : Field} {v : Value} {d : DataW H} {p : List MemPlace} (hs : P.underlying t = some (.struct #[f0, f1])) (hone : oneCellFields P #[f0, f1] = true) (hC : P.cellsOf t = 2)
    (u0 : P.underlying f0.type = some (.int .i64)) (u1 : P.underlying f1.type = some .string)
    (hv : Value.okWide P w r b0 t v) (h : DataW.Trod enc P w base spare held t v d p) :
    ∃ (z : Int) (s : ByteArray), v = .agg #[.int .i64 z, .string s] ∧ p = [] ∧ ((-9223372036854775808 ≤ z ∧ z ≤ 9223372036854775807) ∧ s.size ≤ maxLen) ∧ ∀ (w' : World) (base' : Nat) (spare' : Nat → Bool) (held' : Bool), DataW.Trod enc P w' base' spare' held' t (.agg #[.int .i64 z, .string s]) d [] := by
  obtain ⟨v0, v1, y0, y1, n, rfl, rfl, rfl, h0, h1⟩ := Go.Joins.open_agg2 hs hone hC hv h
  obtain ⟨a0, e0, rfl, w0⟩ := DataW.trod_int u0 h0
  obtain ⟨s, e1, rfl, hsz⟩ := DataW.trod_string u1 h1
  obtain rfl : v0 = .int .i64 a0 := by simpa using e0
  obtain rfl : v1 = .string s := by simpa using e1
  exact ⟨a0, s, rfl, rfl, ⟨bd_int w0, hsz⟩, fun w' base' spare' held' => Go.Joins.shut_agg2 hs hone hC ⟨_, trod_int_mk 0 u0 w0⟩ (Go.Deep.shut_string_cell u1 hsz)⟩
end
end Go.Proofs.Ytgkojedgamglgaa
