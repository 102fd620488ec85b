/- The contract of slices.Chunk of words by twos: the parts, in order. Conditions: an even length within the reach. -/
import Derived.RangeFuncBox
import Derived.RangeFuncLeaves
import Derived.RangeFuncNested
import Derived.RangeFuncBound
import Derived.RangeFuncCalls
import Derived.Shelf.Abstract
import Derived.WalkKit
import Derived.OwnWalkIn
import Derived.TacticsInMore
import Derived.LoopNIn
import Derived.LoopIn
import Derived.Lib.MinMax
import Derived.Test.YtoifejinppjeeaaGen
namespace Go.Proofs.Ytoifejinppjeeaa
open Go.RowKit Go.Shelf
set_option linter.unusedVariables false
set_option linter.unusedSimpArgs false
attribute [local go_sem] Oper.semAt_some
/-- The k-th part by twos of a slice of words. -/
def chk (b off k : Nat) : Value := .slice (some ⟨b, off + 2 * k, none⟩) 2 2
/-- Two boxes lie as they lay. -/
def KeepsTwo (p q : Nat) (W W' : World) : Prop := W'.heap[p]? = W.heap[p]? ∧ W'.heap[q]? = W.heap[q]?
theorem KeepsTwo.trans {p q : Nat} {A B C : World} (h : KeepsTwo p q A B) (h2 : KeepsTwo p q B C) : KeepsTwo p q A C := ⟨h2.1.trans h.1, h2.2.trans h.2⟩
theorem keepsTwo_b {p q S : Nat} (hp : p < S) (hq : q < S) (W : World) (l : Nat) (o o' : Obj) (hl : S ≤ l) (_ : W.heap[l]? = some o) (_ : o.isCells = false) (_ : o.isWalk = false) : KeepsTwo p q W (W.putObj l o') :=
  ⟨World.putObj_heap_other (by omega), World.putObj_heap_other (by omega)⟩
theorem Below.keepsTwo {n p q : Nat} {A B : World} (h : Below n A B) (hp : p < n) (hq : q < n) : KeepsTwo p q A B := ⟨h.block p hp, h.block q hq⟩
set_option maxRecDepth 100000 in
set_option maxHeartbeats 4000000 in
theorem chunk1_in (n : Nat) (hn : 1 ≤ n) (l Bs Bn b off m cap : Nat) (a : Option Addr) (hcap : 2 * m ≤ cap) (hcm : m ≤ 400) (ha : 0 < m → a = some ⟨b, off, none⟩) (J Jx : List (Fin m) → World → Prop)
    (hJd : ∀ pre W, J pre W → J pre W.drew)
    (hY : ∀ pre x W, J pre W → pre.length < m → YieldAt Fence.wide (n - 1) Try.prog l #[chk b off x.1] W fun e W' =>
      (e = .returned (.bool true) ∧ J (pre ++ [x]) W' ∧ KeepsTwo Bs Bn W W') ∨ (e = .returned (.bool false) ∧ Jx (pre ++ [x]) W'))
    (W : World) (hBs : Boxed W Bs 44 (.slice a (2 * m) cap)) (hBn : Boxed W Bn 3 (.int .i64 2)) (h0 : J [] W) :
    CallsIn Fence.wide n Try.prog 103 #[.func (.yield l) #[] #[], .pointer (some ⟨Bs, 0, none⟩), .pointer (some ⟨Bn, 0, none⟩)] W fun e W' => (∃ v, e = .returned v) ∧
      ((∃ ys : List (Fin m), ys.map (·.1) = List.range m ∧ J ys W') ∨ (∃ pre : List (Fin m), (∃ k, k ≤ m ∧ pre.map (·.1) = List.range k) ∧ Jx pre W')) := by
  refine callsIn_of_wp Try.func103 rfl trivial ?_ rfl
  simp only [Try.ntmps103, List.size_toArray, List.length_cons, List.length_nil, Nat.reduceAdd, Nat.reduceSub, Array.replicate_succ, Array.replicate_zero, List.push_toArray, List.append_toArray, List.nil_append, List.cons_append]
  gi_wp2
  gi_loopw [4] (fun i wr => ∃ (k : Nat) (pre : List (Fin m)), k ≤ m ∧ i = .int .i64 (2 * (k : Int)) ∧ pre.map (·.1) = List.range k ∧ J pre wr ∧ KeepsTwo Bs Bn W wr)
    (fun i _ => 2 * m - (intOf i).toNat)
  case atStart => exact ⟨0, [], Nat.zero_le _, rfl, rfl, h0, rfl, rfl⟩
  case round =>
    obtain ⟨k, pre, hk, rfl, hpre, hJs, hnx⟩ := hrel
    have HP := Lib.hid hpre
    have hpl := congrArg List.length hpre
    simp only [List.length_map, List.length_range] at hpl
    clear hpre
    have hb1 : Boxed wr Bs 44 (.slice a (2 * m) cap) := hnx.1.trans hBs
    have hb2 : Boxed wr Bn 3 (.int .i64 2) := hnx.2.trans hBn
    have c1 := hb1.cell
    have c2 := hb2.cell
    by_cases hlt : k < m
    · obtain rfl := ha (by omega)
      obtain ⟨fn, tmps, assign, body, hy, hR⟩ := hY pre ⟨k, hlt⟩ wr.drew (hJd _ _ hJs) (by omega)
      unfold chk at hy
      have hlt' : 2 * (k : Int) < ((2 * m : Nat) : Int) := by omega
      have e1 : IntKind.i64.wrap (2 * (k : Int) + 2) = 2 * (k : Int) + 2 := IntWalk.i64_in _ (by omega)
      have hmin : min 2 ((2 * m - 2 * k : Nat) : Int) = 2 := by omega
      gi_wp2_with fail
      gi_region
      gi_wp2
      refine hR.mono ?_
      rintro e W3 (⟨rfl, hJ3, hk3⟩ | ⟨rfl, hJx3⟩)
      · have hb3 : Boxed W3 Bn 3 (.int .i64 2) := hk3.2.trans hb2
        have c3 := hb3.cell
        have HP2 := Lib.hid (show (pre ++ [(⟨k, hlt⟩ : Fin m)]).map (·.1) = List.range (k + 1) by rw [List.map_append, HP.out, List.range_succ]; rfl)
        gi_wp2
        go_roundw
        case rel => exact ⟨k + 1, _, by omega, by go_num, HP2.out, hJ3, hnx.trans hk3⟩
        case measure => simp [intOf]; omega
      · gi_wp2
        refine bodyPost_ret (results_none rfl _ _ _) rfl ?_
        exact ⟨⟨_, rfl⟩, .inr ⟨_, ⟨k + 1, by omega, by rw [List.map_append, HP.out, List.range_succ]; rfl⟩, hJx3⟩⟩
    · obtain rfl : k = m := by omega
      gi_wp2
      go_end0
      exact ⟨⟨_, rfl⟩, .inl ⟨_, HP.out, hJs⟩⟩
/-- **slices.Chunk(s, 2)**: both are boxed; the function value captures the boxes. -/
theorem chunk_any (a : Option Addr) (len cap : Nat) (w : World) :
    Calls Try.prog 83 #[.slice a len cap, .int .i64 2] w fun e w' => e = .returned (.func (.func 103) #[] #[.pointer (some ⟨w.heap.size, 0, none⟩), .pointer (some ⟨w.heap.size + 1, 0, none⟩)]) ∧
      w' = (w.alloc (.cells #[.slice a len cap] 44)).alloc (.cells #[.int .i64 2] 3) := by
  go_enter Try.func83, Try.ntmps83
  go_wp2
  go_ret
  exact ⟨rfl, rfl⟩
/-- What it hands back: all parts, in order; or those up to some number. -/
theorem chunk_stops (n : Nat) (hn : 1 ≤ n) (Bs Bn b off m cap : Nat) (a : Option Addr) (hcap : 2 * m ≤ cap) (hcm : m ≤ 400) (ha : 0 < m → a = some ⟨b, off, none⟩) (w : World)
    (hBs : Boxed w Bs 44 (.slice a (2 * m) cap)) (hBn : Boxed w Bn 3 (.int .i64 2)) :
    SeqStopsK Fence.wide n Try.prog 103 #[.pointer (some ⟨Bs, 0, none⟩), .pointer (some ⟨Bn, 0, none⟩)] (fun k : Fin m => #[chk b off k.1]) (KeepsTwo Bs Bn) (fun ys => ys.map (·.1) = List.range m) (fun pre => ∃ k, k ≤ m ∧ pre.map (·.1) = List.range k) m w := fun l J Jx W hW hJ _ hY h0 => by
  refine chunk1_in n hn l Bs Bn b off m cap a hcap hcm ha J Jx (fun pre W1 h => ?_) hY W ((hW.block Bs hBs.lt).trans hBs) ((hW.block Bn hBn.lt).trans hBn) h0
  exact hJ pre W1 W1.drew none h ⟨rfl, rfl, rfl, Nat.le_refl _, fun _ _ _ => rfl⟩ (fun r e => by cases e)
end Go.Proofs.Ytoifejinppjeeaa
