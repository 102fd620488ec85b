/- Stores that stand in a line. -/
import Derived.Test.YtoifejinppjeeaaLineMore
namespace Go.Proofs.Ytoifejinppjeeaa
def okS (os : List St) : Prop := ∀ s ∈ os, 0 ≤ s.1 ∧ s.1 < 8
end Go.Proofs.Ytoifejinppjeeaa
