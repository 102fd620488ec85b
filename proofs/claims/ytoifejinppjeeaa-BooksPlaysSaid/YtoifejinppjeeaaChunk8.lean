/- The contract of slices.Chunk of words by eights: the parts, in order. Conditions: a length of eights within the reach. -/
import Derived.Test.YtoifejinppjeeaaChunk
import Derived.RangeFuncLeaves
import Derived.RangeFuncNested
import Derived.RangeFuncBound
import Derived.RangeFuncCalls
import Derived.Shelf.Abstract
import Derived.WalkKit
import Derived.OwnWalkIn
import Derived.TacticsInMore
import Derived.LoopNIn
import Derived.LoopIn
import Derived.Lib.MinMax
import Derived.Test.YtoifejinppjeeaaGen
namespace Go.Proofs.Ytoifejinppjeeaa
open Go.RowKit Go.Shelf
set_option linter.unusedVariables false
set_option linter.unusedSimpArgs false
attribute [local go_sem] Oper.semAt_some
/-- The k-th part by eights of a slice of words. -/
def chk8 (b off k : Nat) : Value := .slice (some ⟨b, off + 8 * k, none⟩) 8 8
set_option maxRecDepth 100000 in
set_option maxHeartbeats 4000000 in
theorem chunk8_in (n : Nat) (hn : 1 ≤ n) (l Bs Bn b off m cap : Nat) (a : Option Addr) (hcap : 8 * m ≤ cap) (hcm : m ≤ 1024) (ha : 0 < m → a = some ⟨b, off, none⟩) (J Jx : List (Fin m) → World → Prop)
    (hJd : ∀ pre W, J pre W → J pre W.drew)
    (hY : ∀ pre x W, J pre W → pre.length < m → YieldAt Fence.wide (n - 1) Try.prog l #[chk8 b off x.1] W fun e W' =>
      (e = .returned (.bool true) ∧ J (pre ++ [x]) W' ∧ KeepsTwo Bs Bn W W') ∨ (e = .returned (.bool false) ∧ Jx (pre ++ [x]) W'))
    (W : World) (hBs : Boxed W Bs 44 (.slice a (8 * m) cap)) (hBn : Boxed W Bn 3 (.int .i64 8)) (h0 : J [] W) :
    CallsIn Fence.wide n Try.prog 103 #[.func (.yield l) #[] #[], .pointer (some ⟨Bs, 0, none⟩), .pointer (some ⟨Bn, 0, none⟩)] W fun e W' => (∃ v, e = .returned v) ∧
      ((∃ ys : List (Fin m), ys.map (·.1) = List.range m ∧ J ys W') ∨ (∃ pre : List (Fin m), (∃ k, k ≤ m ∧ pre.map (·.1) = List.range k) ∧ Jx pre W')) := by
  refine callsIn_of_wp Try.func103 rfl trivial ?_ rfl
  simp only [Try.ntmps103, List.size_toArray, List.length_cons, List.length_nil, Nat.reduceAdd, Nat.reduceSub, Array.replicate_succ, Array.replicate_zero, List.push_toArray, List.append_toArray, List.nil_append, List.cons_append]
  gi_wp2
  gi_loopw [4] (fun i wr => ∃ (k : Nat) (pre : List (Fin m)), k ≤ m ∧ i = .int .i64 (8 * (k : Int)) ∧ pre.map (·.1) = List.range k ∧ J pre wr ∧ KeepsTwo Bs Bn W wr)
    (fun i _ => 8 * m - (intOf i).toNat)
  case atStart => exact ⟨0, [], Nat.zero_le _, rfl, rfl, h0, rfl, rfl⟩
  case round =>
    obtain ⟨k, pre, hk, rfl, hpre, hJs, hnx⟩ := hrel
    have HP := Lib.hid hpre
    have hpl := congrArg List.length hpre
    simp only [List.length_map, List.length_range] at hpl
    clear hpre
    have hb1 : Boxed wr Bs 44 (.slice a (8 * m) cap) := hnx.1.trans hBs
    have hb2 : Boxed wr Bn 3 (.int .i64 8) := hnx.2.trans hBn
    have c1 := hb1.cell
    have c2 := hb2.cell
    by_cases hlt : k < m
    · obtain rfl := ha (by omega)
      obtain ⟨fn, tmps, assign, body, hy, hR⟩ := hY pre ⟨k, hlt⟩ wr.drew (hJd _ _ hJs) (by omega)
      unfold chk8 at hy
      have hlt' : 8 * (k : Int) < ((8 * m : Nat) : Int) := by omega
      have e1 : IntKind.i64.wrap (8 * (k : Int) + 8) = 8 * (k : Int) + 8 := IntWalk.i64_in _ (by omega)
      have hmin : min 8 ((8 * m - 8 * k : Nat) : Int) = 8 := by omega
      gi_wp2_with fail
      gi_region
      gi_wp2
      refine hR.mono ?_
      rintro e W3 (⟨rfl, hJ3, hk3⟩ | ⟨rfl, hJx3⟩)
      · have hb3 : Boxed W3 Bn 3 (.int .i64 8) := hk3.2.trans hb2
        have c3 := hb3.cell
        have HP2 := Lib.hid (show (pre ++ [(⟨k, hlt⟩ : Fin m)]).map (·.1) = List.range (k + 1) by rw [List.map_append, HP.out, List.range_succ]; rfl)
        gi_wp2
        go_roundw
        case rel => exact ⟨k + 1, _, by omega, by go_num, HP2.out, hJ3, hnx.trans hk3⟩
        case measure => simp [intOf]; omega
      · gi_wp2
        refine bodyPost_ret (results_none rfl _ _ _) rfl ?_
        exact ⟨⟨_, rfl⟩, .inr ⟨_, ⟨k + 1, by omega, by rw [List.map_append, HP.out, List.range_succ]; rfl⟩, hJx3⟩⟩
    · obtain rfl : k = m := by omega
      gi_wp2
      go_end0
      exact ⟨⟨_, rfl⟩, .inl ⟨_, HP.out, hJs⟩⟩
/-- **slices.Chunk(s, 8)**: both are boxed; the function value captures the boxes. -/
theorem chunk8_any (a : Option Addr) (len cap : Nat) (w : World) :
    Calls Try.prog 83 #[.slice a len cap, .int .i64 8] w fun e w' => e = .returned (.func (.func 103) #[] #[.pointer (some ⟨w.heap.size, 0, none⟩), .pointer (some ⟨w.heap.size + 1, 0, none⟩)]) ∧
      w' = (w.alloc (.cells #[.slice a len cap] 44)).alloc (.cells #[.int .i64 8] 3) := by
  go_enter Try.func83, Try.ntmps83
  go_wp2
  go_ret
  exact ⟨rfl, rfl⟩
/-- What it hands back: all parts, in order; or those up to some number. -/
theorem chunk8_stops (n : Nat) (hn : 1 ≤ n) (Bs Bn b off m cap : Nat) (a : Option Addr) (hcap : 8 * m ≤ cap) (hcm : m ≤ 1024) (ha : 0 < m → a = some ⟨b, off, none⟩) (w : World)
    (hBs : Boxed w Bs 44 (.slice a (8 * m) cap)) (hBn : Boxed w Bn 3 (.int .i64 8)) :
    SeqStopsK Fence.wide n Try.prog 103 #[.pointer (some ⟨Bs, 0, none⟩), .pointer (some ⟨Bn, 0, none⟩)] (fun k : Fin m => #[chk8 b off k.1]) (KeepsTwo Bs Bn) (fun ys => ys.map (·.1) = List.range m) (fun pre => ∃ k, k ≤ m ∧ pre.map (·.1) = List.range k) m w := fun l J Jx W hW hJ _ hY h0 => by
  refine chunk8_in n hn l Bs Bn b off m cap a hcap hcm ha J Jx (fun pre W1 h => ?_) hY W ((hW.block Bs hBs.lt).trans hBs) ((hW.block Bn hBn.lt).trans hBn) h0
  exact hJ pre W1 W1.drew none h ⟨rfl, rfl, rfl, Nat.le_refl _, fun _ _ _ => rfl⟩ (fun r e => by cases e)
end Go.Proofs.Ytoifejinppjeeaa
