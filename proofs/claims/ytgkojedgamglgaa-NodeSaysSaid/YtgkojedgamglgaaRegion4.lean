/- A guarded operation whose guard was itself not wanted is not wanted. No condition. -/
import Derived.Test.YtgkojedgamglgaaRegion3
namespace Go.Proofs.Ytgkojedgamglgaa
open Go.RowKit
theorem wanted_undef {ops : List Oper} {a : Act} {o p : Oper} {g d : Nat} {b : Bool} (ho : o.guard = some (g, b)) (hp : ops[g]? = some p) (hd : p.dst = some d) (hv : a.eval (.tmp d) = undef) :
    Region.wanted o (yielded ops.toArray a.tmps) = false := by
  rw [Act.eval_getD] at hv
  have h2 : ops.toArray[g]? = some p := by simpa using hp
  have h1 : a.tmps[d]? = none ∨ a.tmps[d]? = some undef := by
    rw [Array.getD_eq_getD_getElem?] at hv
    cases h : a.tmps[d]? with
    | none => exact .inl rfl
    | some v => rw [h] at hv; simp at hv; right; rw [hv]
  simp only [Region.wanted, ho, yielded, h2, Option.bind_some, hd]
  rcases h1 with h1 | h1
  · rw [h1]; rfl
  · rw [h1]; rfl
end Go.Proofs.Ytgkojedgamglgaa
