/- A geometry that came in: its four numbers, whatever the memory later. -/
import Derived.Test.YtgkojedgamglgaaFrame
import Derived.Test.YtgkojedgamglgaaGeom
import Derived.Lib.SmallJoins
import Derived.ChangeArms
import Derived.ChangeSame
namespace Go.Proofs.Ytgkojedgamglgaa
open Go.ChangeShapes Go.WideShapes Go.ChangeAt Go.RowKit Go.Deep
/-- Each number is an int. -/
def Geo.Fit (g : Geo) : Prop := (-9223372036854775808 ≤ g.b ∧ g.b ≤ 9223372036854775807) ∧ (-9223372036854775808 ≤ g.n ∧ g.n ≤ 9223372036854775807) ∧ (-9223372036854775808 ≤ g.c ∧ g.c ≤ 9223372036854775807) ∧ (-9223372036854775808 ≤ g.k ∧ g.k ≤ 9223372036854775807)
section
variable {H : Type} {enc : TypeId × Value → H} {P : Program} {w : World} {base : Nat} {spare : Nat → Bool} {held : Bool}
theorem open_geo {r : Reach} {b0 : Nat} {t : TypeId} {f0 f1 f2 f3 : Field} {v : Value} {d : DataW H} {p : List MemPlace} (hs : P.underlying t = some (.struct #[f0, f1, f2, f3])) (hone : oneCellFields P #[f0, f1, f2, f3] = true) (hC : P.cellsOf t = 4)
    (u0 : P.underlying f0.type = some (.int .i64)) (u1 : P.underlying f1.type = some (.int .i64)) (u2 : P.underlying f2.type = some (.int .i64)) (u3 : P.underlying f3.type = some (.int .i64))
    (hv : Value.okWide P w r b0 t v) (h : DataW.Trod enc P w base spare held t v d p) :
    ∃ g : Geo, v = g.v ∧ p = [] ∧ g.Fit ∧ ∀ (w' : World) (base' : Nat) (spare' : Nat → Bool) (held' : Bool), DataW.Trod enc P w' base' spare' held' t g.v d [] := by
  obtain ⟨v0, v1, v2, v3, y0, y1, y2, y3, n, rfl, rfl, rfl, h0, h1, h2, h3⟩ := Go.Joins.open_agg4 hs hone hC hv h
  obtain ⟨a0, e0, rfl, w0⟩ := DataW.trod_int u0 h0
  obtain ⟨a1, e1, rfl, w1⟩ := DataW.trod_int u1 h1
  obtain ⟨a2, e2, rfl, w2⟩ := DataW.trod_int u2 h2
  obtain ⟨a3, e3, rfl, w3⟩ := DataW.trod_int u3 h3
  obtain rfl : v0 = .int .i64 a0 := by simpa using e0
  obtain rfl : v1 = .int .i64 a1 := by simpa using e1
  obtain rfl : v2 = .int .i64 a2 := by simpa using e2
  obtain rfl : v3 = .int .i64 a3 := by simpa using e3
  exact ⟨⟨a0, a1, a2, a3⟩, rfl, rfl, ⟨bd_int w0, bd_int w1, bd_int w2, bd_int w3⟩, fun w' base' spare' held' => Go.Joins.shut_agg4 hs hone hC ⟨_, trod_int_mk 0 u0 w0⟩ ⟨_, trod_int_mk 0 u1 w1⟩ ⟨_, trod_int_mk 0 u2 w2⟩ ⟨_, trod_int_mk 0 u3 w3⟩⟩
end
end Go.Proofs.Ytgkojedgamglgaa
