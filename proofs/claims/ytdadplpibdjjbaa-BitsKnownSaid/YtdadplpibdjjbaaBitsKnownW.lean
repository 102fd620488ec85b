/- The walk of the closed statement BitsKnown: the evaluator finds it true. No condition. -/
import Derived.Test.YtdadplpibdjjbaaEngQ
import Derived.KernelRfl
namespace Go.Proofs.Ytdadplpibdjjbaa
open Go Go.RowKit
theorem BitsKnown_walk (w : World) : Calls Try.prog 13 #[] w fun e w' => e = .returned (.bool true) ∧ Below w.heap.size w w' :=
  Eng.isTrue_ok (by kernel_rfl) (by kernel_rfl) (lf := 5000) (d := 200) (by kernel_rfl) w
end Go.Proofs.Ytdadplpibdjjbaa
