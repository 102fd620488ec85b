/- The walk of the closed statement RedoKnown: the evaluator finds it true. No condition. -/
import Derived.Test.YtgkojedgamglgaaEngQ
import Derived.KernelRfl
namespace Go.Proofs.Ytgkojedgamglgaa
open Go Go.RowKit
theorem RedoKnown_walk (w : World) : Calls Try.prog 11 #[] w fun e w' => e = .returned (.bool true) ∧ Below w.heap.size w w' :=
  Eng.isTrue_ok (by kernel_rfl) (by kernel_rfl) (lf := 5000) (d := 200) (by kernel_rfl) w
end Go.Proofs.Ytgkojedgamglgaa
