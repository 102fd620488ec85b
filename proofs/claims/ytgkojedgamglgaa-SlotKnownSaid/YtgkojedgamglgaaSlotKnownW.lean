/- The walk of the closed statement SlotKnown: the evaluator finds it true. No condition. -/
import Derived.Test.YtgkojedgamglgaaEngQ
import Derived.KernelRfl
namespace Go.Proofs.Ytgkojedgamglgaa
open Go Go.RowKit
theorem SlotKnown_walk (w : World) : Calls Try.prog 18 #[] w fun e w' => e = .returned (.bool true) ∧ Below w.heap.size w w' :=
  Eng.isTrue_ok (by kernel_rfl) (by kernel_rfl) (lf := 5000) (d := 200) (by kernel_rfl) w
end Go.Proofs.Ytgkojedgamglgaa
