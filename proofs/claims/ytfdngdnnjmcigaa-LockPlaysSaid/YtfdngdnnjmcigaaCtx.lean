/- Small laws of blocks in memory: a block stays, its cells. No condition. -/
import Derived.Test.YtfdngdnnjmcigaaGen
import Derived.Lib.SmallJoins
import Derived.Lib.Builder
namespace Go.Proofs.Ytfdngdnnjmcigaa
open Go.RowKit
section
variable {W W' : World} {p : Nat} {o : Obj} {T : TypeId}
theorem heap_below (h : W.heap[p]? = some o) (hb : Below W.heap.size W W') : W'.heap[p]? = some o := (hb.block p (Array.getElem?_eq_some_iff.1 h).1).trans h
theorem heap_lt (h : W.heap[p]? = some o) : p < W.heap.size := (Array.getElem?_eq_some_iff.1 h).1
theorem cells2 {a b : Value} (h : W.heap[p]? = some (.cells #[a, b] T (0, 0))) : W.cell? ⟨p, 0, none⟩ = some a ∧ W.cell? ⟨p, 1, none⟩ = some b :=
  ⟨Lib.cell_of_heap h 0, Lib.cell_of_heap h 1⟩
theorem cells4 {a b c d : Value} (h : W.heap[p]? = some (.cells #[a, b, c, d] T (0, 0))) : W.cell? ⟨p, 0, none⟩ = some a ∧ W.cell? ⟨p, 1, none⟩ = some b ∧ W.cell? ⟨p, 2, none⟩ = some c ∧ W.cell? ⟨p, 3, none⟩ = some d :=
  ⟨Lib.cell_of_heap h 0, Lib.cell_of_heap h 1, Lib.cell_of_heap h 2, Lib.cell_of_heap h 3⟩
end
theorem grownBy_setAt' (W : World) (b i : Nat) (v : Value) : W.grownBy (W.setCell ⟨b, i, none⟩ v) (some b) :=
  ⟨rfl, rfl, rfl, by simp [World.setCell], fun k _ hne => Below.heap_setCell _ _ _ _ (fun e => hne (by rw [e]))⟩
/-- Four cells of a block written. -/
theorem heap_set4 {w : World} {q : Nat} {T : TypeId} {a0 b0 c0 d0 : Value} (h : w.heap[q]? = some (.cells #[a0, b0, c0, d0] T (0, 0))) (a b c d : Value) :
    ((((w.setCell ⟨q, 0, none⟩ a).setCell ⟨q, 1, none⟩ b).setCell ⟨q, 2, none⟩ c).setCell ⟨q, 3, none⟩ d).heap[q]? = some (.cells #[a, b, c, d] T (0, 0)) := by
  have h0 := Go.Joins.block_setCell (i := 0) h a
  have h1 := Go.Joins.block_setCell (i := 1) h0 b
  have h2 := Go.Joins.block_setCell (i := 2) h1 c
  have h3 := Go.Joins.block_setCell (i := 3) h2 d
  simpa [List.setIfInBounds_toArray] using h3
theorem below_set4 {B : Nat} {w0 w : World} (h : Below B w0 w) {q : Nat} (hq : B ≤ q) (a b c d : Value) :
    Below B w0 ((((w.setCell ⟨q, 0, none⟩ a).setCell ⟨q, 1, none⟩ b).setCell ⟨q, 2, none⟩ c).setCell ⟨q, 3, none⟩ d) :=
  (((h.setCell (p := ⟨q, 0, none⟩) hq a).setCell (p := ⟨q, 1, none⟩) hq b).setCell (p := ⟨q, 2, none⟩) hq c).setCell (p := ⟨q, 3, none⟩) hq d
theorem frozen4 {W : World} {p : Nat} {T : TypeId} {a b c d : Value} (h : W.heap[p]? = some (.cells #[a, b, c, d] T (0, 0))) : W.frozen? ⟨p, 0, none⟩ = false ∧ W.frozen? ⟨p, 1, none⟩ = false ∧ W.frozen? ⟨p, 2, none⟩ = false ∧ W.frozen? ⟨p, 3, none⟩ = false :=
  ⟨Lib.frozen_of_heap h 0, Lib.frozen_of_heap h 1, Lib.frozen_of_heap h 2, Lib.frozen_of_heap h 3⟩
theorem heap_set1 {w : World} {q : Nat} {T : TypeId} {cs : Array Value} (i : Nat) (h : w.heap[q]? = some (.cells cs T (0, 0))) (a : Value) :
    (w.setCell ⟨q, i, none⟩ a).heap[q]? = some (.cells (cs.setIfInBounds i a) T (0, 0)) := Go.Joins.block_setCell (i := i) h a
/-- The numbers of a struct's block, whichever they are. -/
theorem below_quiet {w w1 : World} {b : Nat} (h : Below b w w1) (n : Nat) : Below b w (w1.drewN n) := ⟨h.os, h.tape, h.output, h.size, h.block⟩
end Go.Proofs.Ytfdngdnnjmcigaa
