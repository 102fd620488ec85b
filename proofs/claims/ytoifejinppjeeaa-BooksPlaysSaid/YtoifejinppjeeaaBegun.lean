/- What the laws of chapter 14 share: awake, book.New, begun. No condition. -/
import Derived.Test.YtoifejinppjeeaaBook
namespace Go.Proofs.Ytoifejinppjeeaa
open Go.RowKit
set_option linter.unusedVariables false
set_option linter.unusedSimpArgs false
theorem bkAwake_any (w : World) : Calls Try.prog 51 #[] w fun e w' => e = .returned (.bool true) ∧ Below w.heap.size w w' :=
  Eng.isTrue_ok (by kernel_rfl) (by kernel_rfl) (lf := 5000) (d := 200) (by kernel_rfl) w
theorem bkNew_any (m : Nat) (f n c : Int) (w : World) : Calls Try.prog 93 #[spV m f n, .int .i64 c] w fun e w' => e = .returned (bkV m f n c) ∧ Below w.heap.size w w' := by
  have HW := Lib.hid (((Below.refl w.heap.size w).alloc (Nat.le_refl _) (.cells #[.pointer (some ⟨m, 0, none⟩), .int .i64 f, .int .i64 n] 29)).alloc (by simp) (.cells #[.pointer (some ⟨m, 0, none⟩), .int .i64 f, .int .i64 n, .int .i64 c] 72))
  unfold spV bkV
  go_enter Try.func93, Try.ntmps93
  go_wp2
  refine bodyPost_ret (v := .agg #[.pointer (some ⟨m, 0, none⟩), .int .i64 f, .int .i64 n, .int .i64 c]) ?_ rfl ⟨rfl, HW.out⟩
  unfold results
  rw [show Try.f93.results = #[.cell 4 72] from rfl]
  go_simp
  try rfl
/-- A book on a new memory, in its lines from the second on. -/
def Begun (B N : Nat) (e : Ending) (w' : World) : Prop := ∃ m own G, e = .returned (.tuple #[bkV m 1 N 3, .pointer (some ⟨m, 0, none⟩), .bool true]) ∧ MemAt w' m own G (newA (N + 2)) ∧ ∀ k, k < B → own k = 0
set_option maxRecDepth 100000 in
set_option maxHeartbeats 4000000 in
theorem begun_any (N : Nat) (w : World) (h1 : 1 ≤ N) (h2 : N ≤ 200) : Calls Try.prog 52 #[.int .i64 N] w fun e w' => Begun w.heap.size N e w' ∧ Below w.heap.size w w' := by
  have KN := Lib.hid (fun W => show Calls Try.prog 20 #[.int .i64 ((N : Int) + 2)] W (fun e w' => Made W.heap.size (newA (N + 2)) e w' ∧ Below W.heap.size W w') from mNew_any (N + 2) W (by omega) (by omega))
  have KO := Lib.hid (fun m own G W hm => spOf_yes m own G (newA (N + 2)) 1 N W hm (by rw [newA_len]; exact decide_eq_true ⟨by omega, by omega, by omega, by omega⟩))
  have KB := Lib.hid (fun m W => bkNew_any m 1 N 3 W)
  have e2 : IntKind.i64.wrap ((N : Int) + 2) = (N : Int) + 2 := IntWalk.i64_in _ (by omega)
  obtain ⟨a0, hA0⟩ : ∃ q, newA (N + 2) = q := ⟨_, rfl⟩
  rw [hA0] at KN KO
  have HA0 := Lib.hid hA0
  clear hA0
  have hb1 : Below w.heap.size w (w.alloc (.cells #[.pointer none, .int .i64 0, .int .i64 0, .int .i64 0] 72)) := (Below.refl _ _).alloc (Nat.le_refl _) _
  have HR := Lib.hid (heap_alloc_new w (.cells #[.pointer none, .int .i64 0, .int .i64 0, .int .i64 0] 72))
  have HW := Lib.hid hb1
  clear hb1
  go_enter Try.func52, Try.ntmps52
  go_wp2_with fail
  refine (KN.out _).mono ?_
  rintro e w2 ⟨⟨m, own, G, rfl, hm, hlow⟩, hb⟩
  have HLOW := Lib.hid (fun k (hk : k < w.heap.size) => hlow k (Nat.lt_of_lt_of_le hk HW.out.size))
  have HRZ := Lib.hid (hlow w.heap.size (by simp))
  have HW := Lib.hid (HW.out.trans (hb.mono HW.out.size))
  have HR := Lib.hid (heap_below HR.out hb)
  have HM := Lib.hid hm
  clear hm hlow hb
  go_wp2_with fail
  refine (KO.out _ _ _ _ HM.out).mono ?_
  rintro e w3 ⟨rfl, hb⟩
  have HW := Lib.hid (HW.out.trans (hb.mono HW.out.size))
  have HR := Lib.hid (heap_below HR.out hb)
  have HM := Lib.hid (HM.out.below hb)
  have hbx : Below w3.heap.size w3 (w3.alloc (.cells #[.pointer (some ⟨m, 0, none⟩), .int .i64 1, .int .i64 N] 29)) := (Below.refl _ _).alloc (Nat.le_refl _) _
  have HW := Lib.hid (HW.out.trans (hbx.mono HW.out.size))
  have HR := Lib.hid (heap_below HR.out hbx)
  have HM := Lib.hid (HM.out.below hbx)
  clear hb hbx
  unfold bkV spV at *
  go_wp2_with fail
  refine (KB.out _ _).mono ?_
  rintro e w4 ⟨rfl, hb⟩
  have HW := Lib.hid (HW.out.trans (hb.mono HW.out.size))
  have HR := Lib.hid (heap_below HR.out hb)
  have HM := Lib.hid (HM.out.below hb)
  have hbx : Below w4.heap.size w4 (w4.alloc (.cells #[.pointer (some ⟨m, 0, none⟩), .int .i64 1, .int .i64 N, .int .i64 3] 72)) := (Below.refl _ _).alloc (Nat.le_refl _) _
  have HS := Lib.hid (heap_alloc_new w4 (.cells #[.pointer (some ⟨m, 0, none⟩), .int .i64 1, .int .i64 N, .int .i64 3] 72))
  have HSL := Lib.hid (heap_lt HR.out)
  have HW := Lib.hid (HW.out.trans (hbx.mono HW.out.size))
  have HR := Lib.hid (heap_below HR.out hbx)
  have HM := Lib.hid (HM.out.below hbx)
  clear hb hbx
  go_wp2_with fail
  have q0 := Lib.cell_of_heap HS.out 0
  have q1 := Lib.cell_of_heap HS.out 1
  have q2 := Lib.cell_of_heap HS.out 2
  have q3 := Lib.cell_of_heap HS.out 3
  have r0 := Lib.cell_of_heap HR.out 0
  have r1 := Lib.cell_of_heap HR.out 1
  have r2 := Lib.cell_of_heap HR.out 2
  have r3 := Lib.cell_of_heap HR.out 3
  have z0 := fun i => Lib.frozen_of_heap HR.out i
  have n1 : w4.heap.size ≠ w.heap.size := fun e => by have := HSL.out; omega
  have n2 : w.heap.size ≠ w4.heap.size := n1.symm
  generalize (w4.alloc (.cells #[.pointer (some ⟨m, 0, none⟩), .int .i64 1, .int .i64 N, .int .i64 3] 72)) = w5 at *
  go_region
  go_wp2
  refine bodyPost_ret (v := .tuple #[.agg #[.pointer (some ⟨m, 0, none⟩), .int .i64 1, .int .i64 N, .int .i64 3], .pointer (some ⟨m, 0, none⟩), .bool true]) ?_ rfl ⟨⟨m, own, G, rfl, ?_, HLOW.out⟩, ?_⟩
  · unfold results
    rw [show Try.f52.results = #[.cell 2 72, .tmp 3, .tmp 4] from rfl]
    go_simp
    try rfl
  · rw [HA0.out]
    exact ((((HM.out.other HRZ.out _).other HRZ.out _).other HRZ.out _).other HRZ.out _).below (Stood.cur (Stood.refl _))
  · exact below_drew ((((HW.out.setCell (p := ⟨w.heap.size, 0, none⟩) (Nat.le_refl _) _).setCell (p := ⟨w.heap.size, 1, none⟩) (Nat.le_refl _) _).setCell (p := ⟨w.heap.size, 2, none⟩) (Nat.le_refl _) _).setCell (p := ⟨w.heap.size, 3, none⟩) (Nat.le_refl _) _) 1
end Go.Proofs.Ytoifejinppjeeaa
