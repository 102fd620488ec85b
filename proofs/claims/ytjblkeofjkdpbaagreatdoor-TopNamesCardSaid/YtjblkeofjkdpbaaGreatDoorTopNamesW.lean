/- The walk of the closed statement TopNames: the evaluator finds it true. No condition. -/
import Derived.Test.YtjblkeofjkdpbaaGreatDoorOrcA
import Derived.Test.YtjblkeofjkdpbaaGreatDoorOrcD
import Derived.Test.YtjblkeofjkdpbaaGreatDoorOrcE
import Derived.Test.YtjblkeofjkdpbaaGreatDoorOrcF
import Derived.Test.YtjblkeofjkdpbaaGreatDoorOrcG
import Derived.KernelRfl
namespace Go.Proofs.YtjblkeofjkdpbaaGreatDoor
open Go Go.RowKit Eng
theorem TopNames_walk (w : World) : Calls Tryz.prog 3 #[] w fun e w' => e = .returned (.bool true) ∧ Below w.heap.size w w' :=
  Eng.isTrue_ok (pr := prO [o3, o9, o10, o11, o12, o13, o15, o16] prT) (nd := ndT) (prO_ok prT_ok (allO_add good3 (allO_add good9 (allO_add good10 (allO_add good11 (allO_add good12 (allO_add good13 (allO_add good15 (allO_add good16 allO_nil))))))))) hng hmix (lf := 20000) (d := 200) (by kernel_rfl) w
end Go.Proofs.YtjblkeofjkdpbaaGreatDoor
