/- The walk of the closed statement PathKnown: the evaluator finds it true. No condition. -/
import Derived.Test.YtfdngdnnjmcigaaDoorEngQ
import Derived.KernelRfl
namespace Go.Proofs.YtfdngdnnjmcigaaDoor
open Go Go.RowKit
theorem PathKnown_walk (w : World) : Calls Tryd.prog 5 #[] w fun e w' => e = .returned (.bool true) ∧ Below w.heap.size w w' :=
  Eng.isTrue_ok (by kernel_rfl) (by kernel_rfl) (lf := 5000) (d := 200) (by kernel_rfl) w
end Go.Proofs.YtfdngdnnjmcigaaDoor
