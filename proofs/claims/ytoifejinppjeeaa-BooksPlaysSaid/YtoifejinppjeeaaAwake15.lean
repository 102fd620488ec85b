/- awake of chapter 15: by the evaluator. No condition. -/
import Derived.Test.YtoifejinppjeeaaEngQ
import Derived.KernelRfl
namespace Go.Proofs.Ytoifejinppjeeaa
open Go.RowKit
theorem bksAwake_any (w : World) : Calls Try.prog 60 #[] w fun e w' => e = .returned (.bool true) ∧ Below w.heap.size w w' :=
  Eng.isTrue_ok (by kernel_rfl) (by kernel_rfl) (lf := 5000) (d := 200) (by kernel_rfl) w
end Go.Proofs.Ytoifejinppjeeaa
