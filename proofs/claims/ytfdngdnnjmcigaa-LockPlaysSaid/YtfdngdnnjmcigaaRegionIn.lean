/- A region that draws its order, in the round of a range over a function: walked plainly, then taken into the round. Conditions: no operation of it is a defer statement. -/
import Derived.Test.YtfdngdnnjmcigaaRegion3
import Derived.OrdersIn
import Derived.RangeFuncCalls
namespace Go.Proofs.Ytfdngdnnjmcigaa
open Go.RowKit
set_option linter.unusedVariables false
set_option linter.unusedSimpArgs false
section
variable {P : Program} {Q : Exit → Act → World → Prop} {fs : List Fact} {a0 : Act} {ops : List Oper} {z : Oper} {zs : List Oper}
/-- The one way out: onward. -/
def OnlyN (Q : Exit → Act → World → Prop) (e : Exit) (a : Act) (w : World) : Prop := e = .normal ∧ Q .normal a w
theorem onlyN_out (h : LetsOut (OnlyN Q)) : False := by
  obtain ⟨a, w, h, _⟩ := h
  cases h
theorem rows_wide {n : Nat} {row : String} {args : Array Value} {w : World} {R : Value → World → Prop} (h : Rows P row args w R) : RowsIn Fence.wide n P row args w R :=
  fun c cs _ => let ⟨v, w', r, s⟩ := h c cs; ⟨v, w', r, stepsIn_wide.2 s⟩
theorem oper_in {l n : Nat} {o : Oper} {a : Act} {w : World} {K K' : Act → World → Prop} (hnd : ∀ c, o.op ≠ .defer c) (hK : ∀ a w, K a w → K' a w) (h : o.wp P a w K (OnlyN Q)) : o.wpIn (Fence.wide.inRound l) n P a w K' Q := by
  unfold Oper.wp at h
  unfold Oper.wpIn
  refine ⟨fun _ _ => trivial, ?_⟩
  rw [Oper.semAt_eq _ _ _ hnd]
  generalize (execOp a.eval o).run P w = r at *
  cases r with
  | ok x w' =>
    cases x <;> simp only [Oper.upon, Oper.uponIn] at h ⊢
    case value v => exact hK _ _ h
    case skip => exact hK _ _ h
    case defer d => exact hK _ _ h
    case enter f args =>
      refine ⟨fun h => (by cases h), CallsIn.inRound l ((callsIn_wide.2 h).mono ?_)⟩
      intro e w'' he
      cases e with
      | returned v => exact hK _ _ he
      | panicked c => obtain ⟨h, _⟩ := he; cases h
      | outgrown => exact (onlyN_out he).elim
    case row row args =>
      exact ⟨fun h => (by cases h), RowsIn.mono (rows_wide h) (fun _ _ he => hK _ _ he)⟩
  | halt x w' =>
    cases x <;> simp only [Oper.upon, Oper.uponIn] at h ⊢
    case panic v => obtain ⟨h, _⟩ := h; cases h
def noDefer (ops : List Oper) : Bool := ops.all fun o => match o.op with
  | .defer _ => false
  | _ => true
theorem noDefer_at (h : noDefer ops = true) {i : Nat} {o : Oper} (ho : ops[i]? = some o) : ∀ c, o.op ≠ .defer c := by
  intro c e
  have := List.all_eq_true.1 h o (List.mem_of_getElem? ho)
  rw [e] at this
  cases this
theorem wpAny_in {l n : Nat} {md : Region.Mode} (hnd : noDefer ops = true) : ∀ (fuel : Nat) (listed : Array Bool) (a : Act) (w : World), wpAny P md ops.toArray (OnlyN Q) fuel listed a w → wpAnyIn (Fence.wide.inRound l) n P md ops.toArray Q fuel listed a w := by
  intro fuel
  induction fuel with
  | zero => exact fun listed a w h => ⟨h.1, h.2.2⟩
  | succ fuel ih =>
    intro listed a w h
    refine ⟨fun hr => (h.1 hr).2, fun i hi => ?_⟩
    have h := h.2 i hi
    unfold wpOp at h
    unfold wpOpIn
    cases ho : ops.toArray[i]? with
    | none => rw [ho] at h; exact ih _ _ _ h
    | some o =>
      rw [ho] at h
      dsimp only at h ⊢
      split at h
      · rename_i hw
        rw [if_pos hw]
        rcases h with h | h
        · exact oper_in (noDefer_at hnd (by simpa using ho)) (fun a w => ih _ a w) h
        · exact (onlyN_out h.2).elim
      · rename_i hw
        rw [if_neg hw]
        exact ⟨fun _ _ => trivial, ih _ _ _ h⟩
/-- **The region with a tail, in a round**: m operations that leave what stood, then the tail. -/
theorem wpIn_region_tail {id l nn : Nat} {w : World} (hnd : noDefer ops = true) (n m : Nat) (fs : List Fact) (hzl : ops.drop m = z :: zs) (hm : P.follows .mixedOrders = true) (hn : a0.tmps.size = n)
    (hst : ∀ f ∈ fs, ∀ v w w', f v w → Stood w w' → f v w') (hok : okB n ops = true) (hsome : ((ops.take m).all fun o => o.dst.isSome) = true) (hz : allWait (ops.take m) z = true) (hch : chainB (ops.take m).length (z :: zs) = true)
    (hstep : StepsOK P ops Stood fs a0 w.drew 0 (ops.take m) fs)
    (hend : ∀ vs w', Stood w.drew w' → Holds fs vs w' → wpList P ops.toArray (OnlyN Q) (z :: zs) (putAll a0 (ops.take m) vs) w') : (Code.region id ops.toArray true).wpIn (Fence.wide.inRound l) nn P Q a0 w :=
  wpIn_region_any hm (wpAny_in hnd _ _ _ _ (wpAny_tail n m fs hzl hn hst hok hsome hz hch hstep hend))
end
end Go.Proofs.Ytfdngdnnjmcigaa
