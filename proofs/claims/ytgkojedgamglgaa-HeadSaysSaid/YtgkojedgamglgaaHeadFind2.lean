/- The walk of head.Find. Condition: the words are whole blocks, neither too few nor too many, and can be read. -/
import Derived.Test.YtgkojedgamglgaaHeadFind
namespace Go.Proofs.Ytgkojedgamglgaa
open Go.RowKit
set_option linter.unusedVariables false
set_option linter.unusedSimpArgs false
/-- What eight words tell: a geometry, a phase, whether they are a head. -/
def tellG (xs : List (BitVec 64)) : Geo := if headOk xs = true then geoW xs else ⟨0, 0, 0, 0⟩
def tellP (xs : List (BitVec 64)) : BitVec 64 := if headOk xs = true then xs.getD 6 0 else 0#64
theorem getV_form (xs : List (BitVec 64)) : getV xs = .tuple #[headV (tellG xs) (tellP xs), .bool (headOk xs)] := by
  unfold getV tellG tellP
  cases h : headOk xs with
  | true => rfl
  | false =>
    have hz : headZ = headV ⟨0, 0, 0, 0⟩ 0#64 := by
      unfold headZ headV
      rw [U_lit 0 (by omega) (by omega)]
      rfl
    simp [hz]
/-- What is found in m blocks: the first eight words, the last. -/
def isAt (xs : List (BitVec 64)) (m : Nat) : Bool := headOk xs && decide ((tellG xs).b = (m : Int))
def findV (a l : List (BitVec 64)) (m : Nat) : Value :=
  if isAt a m = true then .tuple #[headV (tellG a) (tellP a), .bool true, .bool (isAt l m)]
  else if isAt l m = true then .tuple #[headV (tellG l) (tellP l), .bool false, .bool true]
  else .tuple #[headV ⟨0, 0, 0, 0⟩ 0#64, .bool false, .bool false]
theorem hGet_tell (xs : List (BitVec 64)) (hl : xs.length = 8) (A : Option Addr) (c : Nat) (w : World) (hr : RdU w A xs) (hc : 8 ≤ c) (hm : c ≤ maxLen) :
    Calls Try.prog 30 #[.slice A 8 c] w fun e w' => e = .returned (.tuple #[headV (tellG xs) (tellP xs), .bool (headOk xs)]) ∧ Below w.heap.size w w' := by
  have k := hGet_any xs A c w hr (by omega) hm
  rw [hl, getV_form] at k
  exact k
set_option maxRecDepth 100000 in
set_option maxHeartbeats 8000000 in
theorem hFind_any (m : Nat) (h1 : 64 ≤ m) (h2 : m ≤ 1024) (xs : List (BitVec 64)) (hl : xs.length = 8 * m) (A : Option Addr) (cc : Nat) (w : World) (hr : RdU w A xs) (hc : 8 * m ≤ cc) (hm : cc ≤ maxLen) :
    Calls Try.prog 28 #[.slice A (8 * m) cc] w fun e w' => e = .returned (findV (xs.take 8) (xs.drop (8 * m - 8)) m) ∧ Below w.heap.size w w' := by
  have hm' := hm
  unfold maxLen at hm'
  have HZ0 := Lib.hid (show Value.int .u64 0 = U 0#64 from U_lit 0 (by omega) (by omega))
  have HW := Lib.hid ((Below.refl w.heap.size w).alloc (Nat.le_refl _) (.cells #[.int .i64 0, .int .i64 0, .int .i64 0, .int .i64 0, .int .u64 0] 36))
  obtain ⟨b, off, rfl, hcell⟩ := (hr.below HW.out).at_ (show 0 < xs.length by omega)
  clear hcell
  have HR := Lib.hid hr
  have HRA := Lib.hid (fun (W : World) (h : Below w.heap.size w W) => (hr.below h).take 8)
  have HRL := Lib.hid (fun (W : World) (h : Below w.heap.size w W) => (hr.below h).drop (8 * m - 8))
  have hla : (xs.take 8).length = 8 := by rw [List.length_take]; omega
  have hll : (xs.drop (8 * m - 8)).length = 8 := by rw [List.length_drop]; omega
  have KA := Lib.hid (fun (W : World) (h : Below w.heap.size w W) => hGet_tell (xs.take 8) hla _ cc W (HRA.out W h) (by omega) hm)
  have KL := Lib.hid (fun (W : World) (h : Below w.heap.size w W) => hGet_tell (xs.drop (8 * m - 8)) hll _ (cc - (8 * m - 8)) W (HRL.out W h) (by omega) (by omega))
  unfold findV isAt
  generalize xs.take 8 = wa at *
  generalize xs.drop (8 * m - 8) = wl at *
  generalize headOk wa = oa at *
  generalize headOk wl = ol at *
  generalize tellG wa = ga at *
  generalize tellG wl = gl at *
  generalize tellP wa = ap at *
  generalize tellP wl = lp at *
  clear hr hla hll HR HRA HRL hl
  obtain ⟨ab, an, ac, ak⟩ := ga
  obtain ⟨lb, ln, lc, lk⟩ := gl
  unfold headV at *
  simp only at *
  have e1 : (8 * (m : Int)).tdiv 8 = (m : Int) := by rw [Int.tdiv_eq_ediv_of_nonneg (by omega)]; omega
  have e2 : IntKind.i64.wrap (m : Int) = (m : Int) := IntWalk.i64_in _ (by omega)
  have e3 : (8 * (m : Int)).tmod 8 = 0 := by rw [Int.tmod_eq_emod_of_nonneg (by omega)]; omega
  have e4 : IntKind.i64.wrap (8 * (m : Int) - 8) = 8 * (m : Int) - 8 := IntWalk.i64_in _ (by omega)
  have e5 : (8 * (m : Int) - 8).toNat = 8 * m - 8 := by omega
  have e6 : ¬ (m : Int) < 64 := by omega
  have e7 : ¬ 1024 < (m : Int) := by omega
  have e8 : 0 ≤ 8 * (m : Int) - 8 := by omega
  have e9 : 8 * (m : Int) - 8 ≤ 8 * (m : Int) := by omega
  have e10 : 8 * m - (8 * m - 8) = 8 := by omega
  have e11 : 8 ≤ cc := by omega
  have e12 : 8 ≤ 8 * m := by omega
  have e13 : (8 : Int) ≤ (cc : Int) := by omega
  have e14 : 8 * m - 8 ≤ 8 * m := by omega
  cases oa with
  | false =>
    cases ol with
    | false =>
      try simp only [Bool.and_false, Bool.and_true, Bool.true_and, Bool.false_and, decide_true, Bool.false_eq_true, if_false, if_true]
      go_enter Try.func28, Try.ntmps28
      go_wp2_with fail
      refine (KA.out _ HW.out).mono ?_
      rintro e w2 ⟨rfl, hb⟩
      have hr0 := (hb.block w.heap.size (by simp)).trans (heap_alloc_new w (.cells #[.int .i64 0, .int .i64 0, .int .i64 0, .int .i64 0, .int .u64 0] 36))
      have HR0 := Lib.hid hr0
      clear hr0
      have HW2 := Lib.hid (HW.out.trans (hb.mono HW.out.size))
      clear hb
      have HW2a := Lib.hid (HW2.out.alloc HW2.out.size (.cells #[.int .i64 ab, .int .i64 an, .int .i64 ac, .int .i64 ak, U ap] 36))
      go_wp2_with fail
      refine (KL.out _ HW2a.out).mono ?_
      rintro e w3 ⟨rfl, hb⟩
      obtain ⟨c0, c1, c2, c3, c4⟩ := head_cells hb
      have HR0 := Lib.hid ((hb.block w.heap.size (by have := HW2.out.size; have h9 := (Array.getElem?_eq_some_iff.1 HR0.out).1; simp; omega)).trans ((Lib.alloc_old w2 (.cells #[.int .i64 ab, .int .i64 an, .int .i64 ac, .int .i64 ak, U ap] 36) w.heap.size (Array.getElem?_eq_some_iff.1 HR0.out).1).trans HR0.out))
      have HW3 := Lib.hid (HW2a.out.trans (hb.mono HW2a.out.size))
      have hlt2 : w2.heap.size < w3.heap.size := by have := hb.size; simp at this; omega
      clear hb
      have HW4 := Lib.hid (HW3.out.alloc HW3.out.size (.cells #[.int .i64 lb, .int .i64 ln, .int .i64 lc, .int .i64 lk, U lp] 36))
      have HB4 := Lib.hid ((Below.refl w3.heap.size w3).alloc (Nat.le_refl _) (.cells #[.int .i64 lb, .int .i64 ln, .int .i64 lc, .int .i64 lk, U lp] 36))
      have d0 := (HB4.out.cell (p := ⟨w2.heap.size, 0, none⟩) hlt2).trans c0
      have d1 := (HB4.out.cell (p := ⟨w2.heap.size, 1, none⟩) hlt2).trans c1
      have d2 := (HB4.out.cell (p := ⟨w2.heap.size, 2, none⟩) hlt2).trans c2
      have d3 := (HB4.out.cell (p := ⟨w2.heap.size, 3, none⟩) hlt2).trans c3
      have d4 := (HB4.out.cell (p := ⟨w2.heap.size, 4, none⟩) hlt2).trans c4
      obtain ⟨l0, l1, l2, l3, l4⟩ := head_cells (Below.refl (w3.alloc (.cells #[.int .i64 lb, .int .i64 ln, .int .i64 lc, .int .i64 lk, U lp] 36)).heap.size (w3.alloc (.cells #[.int .i64 lb, .int .i64 ln, .int .i64 lc, .int .i64 lk, U lp] 36)))
      have HR0 := Lib.hid ((Lib.alloc_old w3 (.cells #[.int .i64 lb, .int .i64 ln, .int .i64 lc, .int .i64 lk, U lp] 36) w.heap.size (Array.getElem?_eq_some_iff.1 HR0.out).1).trans HR0.out)
      clear c0 c1 c2 c3 c4 hlt2
      go_wp2_with fail
      generalize w3.alloc (.cells #[.int .i64 lb, .int .i64 ln, .int .i64 lc, .int .i64 lk, U lp] 36) = w4 at *
      go_quiet (fail)
      have hh2 := HR0.out
      have hy0 := Lib.cell_of_heap hh2 0
      have hy1 := Lib.cell_of_heap hh2 1
      have hy2 := Lib.cell_of_heap hh2 2
      have hy3 := Lib.cell_of_heap hh2 3
      have hy4 := Lib.cell_of_heap hh2 4
      have hf0 := Lib.frozen_of_heap hh2 0
      have hf1 := Lib.frozen_of_heap hh2 1
      have hf2 := Lib.frozen_of_heap hh2 2
      have hf3 := Lib.frozen_of_heap hh2 3
      have hf4 := Lib.frozen_of_heap hh2 4
      clear hh2
      go_wp2
      have hh2 : (w4.drewN nq).heap[w.heap.size]? = _ := HR0.out
      have HWF := Lib.hid (quiet_b HW4.out nq)
      have hh2 := Go.Joins.block_setCell (i := 0) hh2 (.int .i64 0)
      have HWF := Lib.hid (HWF.out.setCell (p := ⟨w.heap.size, 0, none⟩) (Nat.le_refl _) (.int .i64 0))
      have hh2 := Go.Joins.block_setCell (i := 1) hh2 (.int .i64 0)
      have HWF := Lib.hid (HWF.out.setCell (p := ⟨w.heap.size, 1, none⟩) (Nat.le_refl _) (.int .i64 0))
      have hh2 := Go.Joins.block_setCell (i := 2) hh2 (.int .i64 0)
      have HWF := Lib.hid (HWF.out.setCell (p := ⟨w.heap.size, 2, none⟩) (Nat.le_refl _) (.int .i64 0))
      have hh2 := Go.Joins.block_setCell (i := 3) hh2 (.int .i64 0)
      have HWF := Lib.hid (HWF.out.setCell (p := ⟨w.heap.size, 3, none⟩) (Nat.le_refl _) (.int .i64 0))
      have hh2 := Go.Joins.block_setCell (i := 4) hh2 (.int .u64 0)
      have HWF := Lib.hid (HWF.out.setCell (p := ⟨w.heap.size, 4, none⟩) (Nat.le_refl _) (.int .u64 0))
      simp only [List.setIfInBounds_toArray, List.set_cons_zero, List.set_cons_succ] at hh2
      have r0 := Lib.cell_of_heap hh2 0
      have r1 := Lib.cell_of_heap hh2 1
      have r2 := Lib.cell_of_heap hh2 2
      have r3 := Lib.cell_of_heap hh2 3
      have r4 := Lib.cell_of_heap hh2 4
      clear hh2 hy0 hy1 hy2 hy3 hy4 hf0 hf1 hf2 hf3 hf4 l0 l1 l2 l3 l4 d0 d1 d2 d3 d4
      refine bodyPost_ret (v := .tuple #[.agg #[.int .i64 0, .int .i64 0, .int .i64 0, .int .i64 0, .int .u64 0], .bool false, .bool false]) ?_ rfl ⟨by simp [HZ0.out], HWF.out⟩
      unfold results
      rw [show Try.f28.results = #[.cell 2 36, .tmp 3, .tmp 4] from rfl]
      go_simp
      try rfl
    | true =>
      by_cases hel : lb = (m : Int)
      · subst hel
        try simp only [Bool.and_false, Bool.and_true, Bool.true_and, Bool.false_and, decide_true, Bool.false_eq_true, if_false, if_true]
        go_enter Try.func28, Try.ntmps28
        go_wp2_with fail
        refine (KA.out _ HW.out).mono ?_
        rintro e w2 ⟨rfl, hb⟩
        have hr0 := (hb.block w.heap.size (by simp)).trans (heap_alloc_new w (.cells #[.int .i64 0, .int .i64 0, .int .i64 0, .int .i64 0, .int .u64 0] 36))
        have HR0 := Lib.hid hr0
        clear hr0
        have HW2 := Lib.hid (HW.out.trans (hb.mono HW.out.size))
        clear hb
        have HW2a := Lib.hid (HW2.out.alloc HW2.out.size (.cells #[.int .i64 ab, .int .i64 an, .int .i64 ac, .int .i64 ak, U ap] 36))
        go_wp2_with fail
        refine (KL.out _ HW2a.out).mono ?_
        rintro e w3 ⟨rfl, hb⟩
        obtain ⟨c0, c1, c2, c3, c4⟩ := head_cells hb
        have HR0 := Lib.hid ((hb.block w.heap.size (by have := HW2.out.size; have h9 := (Array.getElem?_eq_some_iff.1 HR0.out).1; simp; omega)).trans ((Lib.alloc_old w2 (.cells #[.int .i64 ab, .int .i64 an, .int .i64 ac, .int .i64 ak, U ap] 36) w.heap.size (Array.getElem?_eq_some_iff.1 HR0.out).1).trans HR0.out))
        have HW3 := Lib.hid (HW2a.out.trans (hb.mono HW2a.out.size))
        have hlt2 : w2.heap.size < w3.heap.size := by have := hb.size; simp at this; omega
        clear hb
        have HW4 := Lib.hid (HW3.out.alloc HW3.out.size (.cells #[.int .i64 (m : Int), .int .i64 ln, .int .i64 lc, .int .i64 lk, U lp] 36))
        have HB4 := Lib.hid ((Below.refl w3.heap.size w3).alloc (Nat.le_refl _) (.cells #[.int .i64 (m : Int), .int .i64 ln, .int .i64 lc, .int .i64 lk, U lp] 36))
        have d0 := (HB4.out.cell (p := ⟨w2.heap.size, 0, none⟩) hlt2).trans c0
        have d1 := (HB4.out.cell (p := ⟨w2.heap.size, 1, none⟩) hlt2).trans c1
        have d2 := (HB4.out.cell (p := ⟨w2.heap.size, 2, none⟩) hlt2).trans c2
        have d3 := (HB4.out.cell (p := ⟨w2.heap.size, 3, none⟩) hlt2).trans c3
        have d4 := (HB4.out.cell (p := ⟨w2.heap.size, 4, none⟩) hlt2).trans c4
        obtain ⟨l0, l1, l2, l3, l4⟩ := head_cells (Below.refl (w3.alloc (.cells #[.int .i64 (m : Int), .int .i64 ln, .int .i64 lc, .int .i64 lk, U lp] 36)).heap.size (w3.alloc (.cells #[.int .i64 (m : Int), .int .i64 ln, .int .i64 lc, .int .i64 lk, U lp] 36)))
        have HR0 := Lib.hid ((Lib.alloc_old w3 (.cells #[.int .i64 (m : Int), .int .i64 ln, .int .i64 lc, .int .i64 lk, U lp] 36) w.heap.size (Array.getElem?_eq_some_iff.1 HR0.out).1).trans HR0.out)
        clear c0 c1 c2 c3 c4 hlt2
        go_wp2_with fail
        generalize w3.alloc (.cells #[.int .i64 (m : Int), .int .i64 ln, .int .i64 lc, .int .i64 lk, U lp] 36) = w4 at *
        go_quiet (fail)
        have hh2 := HR0.out
        have hy0 := Lib.cell_of_heap hh2 0
        have hy1 := Lib.cell_of_heap hh2 1
        have hy2 := Lib.cell_of_heap hh2 2
        have hy3 := Lib.cell_of_heap hh2 3
        have hy4 := Lib.cell_of_heap hh2 4
        have hf0 := Lib.frozen_of_heap hh2 0
        have hf1 := Lib.frozen_of_heap hh2 1
        have hf2 := Lib.frozen_of_heap hh2 2
        have hf3 := Lib.frozen_of_heap hh2 3
        have hf4 := Lib.frozen_of_heap hh2 4
        clear hh2
        go_wp2
        have hh2 : (w4.drewN nq).heap[w.heap.size]? = _ := HR0.out
        have HWF := Lib.hid (quiet_b HW4.out nq)
        have hh2 := Go.Joins.block_setCell (i := 0) hh2 (.int .i64 (m : Int))
        have HWF := Lib.hid (HWF.out.setCell (p := ⟨w.heap.size, 0, none⟩) (Nat.le_refl _) (.int .i64 (m : Int)))
        have hh2 := Go.Joins.block_setCell (i := 1) hh2 (.int .i64 ln)
        have HWF := Lib.hid (HWF.out.setCell (p := ⟨w.heap.size, 1, none⟩) (Nat.le_refl _) (.int .i64 ln))
        have hh2 := Go.Joins.block_setCell (i := 2) hh2 (.int .i64 lc)
        have HWF := Lib.hid (HWF.out.setCell (p := ⟨w.heap.size, 2, none⟩) (Nat.le_refl _) (.int .i64 lc))
        have hh2 := Go.Joins.block_setCell (i := 3) hh2 (.int .i64 lk)
        have HWF := Lib.hid (HWF.out.setCell (p := ⟨w.heap.size, 3, none⟩) (Nat.le_refl _) (.int .i64 lk))
        have hh2 := Go.Joins.block_setCell (i := 4) hh2 (U lp)
        have HWF := Lib.hid (HWF.out.setCell (p := ⟨w.heap.size, 4, none⟩) (Nat.le_refl _) (U lp))
        simp only [List.setIfInBounds_toArray, List.set_cons_zero, List.set_cons_succ] at hh2
        have r0 := Lib.cell_of_heap hh2 0
        have r1 := Lib.cell_of_heap hh2 1
        have r2 := Lib.cell_of_heap hh2 2
        have r3 := Lib.cell_of_heap hh2 3
        have r4 := Lib.cell_of_heap hh2 4
        clear hh2 hy0 hy1 hy2 hy3 hy4 hf0 hf1 hf2 hf3 hf4 l0 l1 l2 l3 l4 d0 d1 d2 d3 d4
        refine bodyPost_ret (v := .tuple #[.agg #[.int .i64 (m : Int), .int .i64 ln, .int .i64 lc, .int .i64 lk, U lp], .bool false, .bool true]) ?_ rfl ⟨by simp [HZ0.out], HWF.out⟩
        unfold results
        rw [show Try.f28.results = #[.cell 2 36, .tmp 3, .tmp 4] from rfl]
        go_simp
        try rfl
      · have hbl : (lb == (m : Int)) = false := by simpa using hel
        have HEl := Lib.hid hel
        have hdl : decide (lb = (m : Int)) = false := decide_eq_false hel
        clear hel
        try simp only [hdl, Bool.and_false, Bool.and_true, Bool.true_and, Bool.false_and, decide_true, Bool.false_eq_true, if_false, if_true]
        go_enter Try.func28, Try.ntmps28
        go_wp2_with fail
        refine (KA.out _ HW.out).mono ?_
        rintro e w2 ⟨rfl, hb⟩
        have hr0 := (hb.block w.heap.size (by simp)).trans (heap_alloc_new w (.cells #[.int .i64 0, .int .i64 0, .int .i64 0, .int .i64 0, .int .u64 0] 36))
        have HR0 := Lib.hid hr0
        clear hr0
        have HW2 := Lib.hid (HW.out.trans (hb.mono HW.out.size))
        clear hb
        have HW2a := Lib.hid (HW2.out.alloc HW2.out.size (.cells #[.int .i64 ab, .int .i64 an, .int .i64 ac, .int .i64 ak, U ap] 36))
        go_wp2_with fail
        refine (KL.out _ HW2a.out).mono ?_
        rintro e w3 ⟨rfl, hb⟩
        obtain ⟨c0, c1, c2, c3, c4⟩ := head_cells hb
        have HR0 := Lib.hid ((hb.block w.heap.size (by have := HW2.out.size; have h9 := (Array.getElem?_eq_some_iff.1 HR0.out).1; simp; omega)).trans ((Lib.alloc_old w2 (.cells #[.int .i64 ab, .int .i64 an, .int .i64 ac, .int .i64 ak, U ap] 36) w.heap.size (Array.getElem?_eq_some_iff.1 HR0.out).1).trans HR0.out))
        have HW3 := Lib.hid (HW2a.out.trans (hb.mono HW2a.out.size))
        have hlt2 : w2.heap.size < w3.heap.size := by have := hb.size; simp at this; omega
        clear hb
        have HW4 := Lib.hid (HW3.out.alloc HW3.out.size (.cells #[.int .i64 lb, .int .i64 ln, .int .i64 lc, .int .i64 lk, U lp] 36))
        have HB4 := Lib.hid ((Below.refl w3.heap.size w3).alloc (Nat.le_refl _) (.cells #[.int .i64 lb, .int .i64 ln, .int .i64 lc, .int .i64 lk, U lp] 36))
        have d0 := (HB4.out.cell (p := ⟨w2.heap.size, 0, none⟩) hlt2).trans c0
        have d1 := (HB4.out.cell (p := ⟨w2.heap.size, 1, none⟩) hlt2).trans c1
        have d2 := (HB4.out.cell (p := ⟨w2.heap.size, 2, none⟩) hlt2).trans c2
        have d3 := (HB4.out.cell (p := ⟨w2.heap.size, 3, none⟩) hlt2).trans c3
        have d4 := (HB4.out.cell (p := ⟨w2.heap.size, 4, none⟩) hlt2).trans c4
        obtain ⟨l0, l1, l2, l3, l4⟩ := head_cells (Below.refl (w3.alloc (.cells #[.int .i64 lb, .int .i64 ln, .int .i64 lc, .int .i64 lk, U lp] 36)).heap.size (w3.alloc (.cells #[.int .i64 lb, .int .i64 ln, .int .i64 lc, .int .i64 lk, U lp] 36)))
        have HR0 := Lib.hid ((Lib.alloc_old w3 (.cells #[.int .i64 lb, .int .i64 ln, .int .i64 lc, .int .i64 lk, U lp] 36) w.heap.size (Array.getElem?_eq_some_iff.1 HR0.out).1).trans HR0.out)
        clear c0 c1 c2 c3 c4 hlt2
        go_wp2_with fail
        generalize w3.alloc (.cells #[.int .i64 lb, .int .i64 ln, .int .i64 lc, .int .i64 lk, U lp] 36) = w4 at *
        go_quiet (fail)
        have hh2 := HR0.out
        have hy0 := Lib.cell_of_heap hh2 0
        have hy1 := Lib.cell_of_heap hh2 1
        have hy2 := Lib.cell_of_heap hh2 2
        have hy3 := Lib.cell_of_heap hh2 3
        have hy4 := Lib.cell_of_heap hh2 4
        have hf0 := Lib.frozen_of_heap hh2 0
        have hf1 := Lib.frozen_of_heap hh2 1
        have hf2 := Lib.frozen_of_heap hh2 2
        have hf3 := Lib.frozen_of_heap hh2 3
        have hf4 := Lib.frozen_of_heap hh2 4
        clear hh2
        go_wp2
        have hh2 : (w4.drewN nq).heap[w.heap.size]? = _ := HR0.out
        have HWF := Lib.hid (quiet_b HW4.out nq)
        have hh2 := Go.Joins.block_setCell (i := 0) hh2 (.int .i64 0)
        have HWF := Lib.hid (HWF.out.setCell (p := ⟨w.heap.size, 0, none⟩) (Nat.le_refl _) (.int .i64 0))
        have hh2 := Go.Joins.block_setCell (i := 1) hh2 (.int .i64 0)
        have HWF := Lib.hid (HWF.out.setCell (p := ⟨w.heap.size, 1, none⟩) (Nat.le_refl _) (.int .i64 0))
        have hh2 := Go.Joins.block_setCell (i := 2) hh2 (.int .i64 0)
        have HWF := Lib.hid (HWF.out.setCell (p := ⟨w.heap.size, 2, none⟩) (Nat.le_refl _) (.int .i64 0))
        have hh2 := Go.Joins.block_setCell (i := 3) hh2 (.int .i64 0)
        have HWF := Lib.hid (HWF.out.setCell (p := ⟨w.heap.size, 3, none⟩) (Nat.le_refl _) (.int .i64 0))
        have hh2 := Go.Joins.block_setCell (i := 4) hh2 (.int .u64 0)
        have HWF := Lib.hid (HWF.out.setCell (p := ⟨w.heap.size, 4, none⟩) (Nat.le_refl _) (.int .u64 0))
        simp only [List.setIfInBounds_toArray, List.set_cons_zero, List.set_cons_succ] at hh2
        have r0 := Lib.cell_of_heap hh2 0
        have r1 := Lib.cell_of_heap hh2 1
        have r2 := Lib.cell_of_heap hh2 2
        have r3 := Lib.cell_of_heap hh2 3
        have r4 := Lib.cell_of_heap hh2 4
        clear hh2 hy0 hy1 hy2 hy3 hy4 hf0 hf1 hf2 hf3 hf4 l0 l1 l2 l3 l4 d0 d1 d2 d3 d4
        refine bodyPost_ret (v := .tuple #[.agg #[.int .i64 0, .int .i64 0, .int .i64 0, .int .i64 0, .int .u64 0], .bool false, .bool false]) ?_ rfl ⟨by simp [HZ0.out, HEl.out], HWF.out⟩
        unfold results
        rw [show Try.f28.results = #[.cell 2 36, .tmp 3, .tmp 4] from rfl]
        go_simp
        try rfl
  | true =>
    by_cases hea : ab = (m : Int)
    · subst hea
      cases ol with
      | false =>
        try simp only [Bool.and_false, Bool.and_true, Bool.true_and, Bool.false_and, decide_true, Bool.false_eq_true, if_false, if_true]
        go_enter Try.func28, Try.ntmps28
        go_wp2_with fail
        refine (KA.out _ HW.out).mono ?_
        rintro e w2 ⟨rfl, hb⟩
        have hr0 := (hb.block w.heap.size (by simp)).trans (heap_alloc_new w (.cells #[.int .i64 0, .int .i64 0, .int .i64 0, .int .i64 0, .int .u64 0] 36))
        have HR0 := Lib.hid hr0
        clear hr0
        have HW2 := Lib.hid (HW.out.trans (hb.mono HW.out.size))
        clear hb
        have HW2a := Lib.hid (HW2.out.alloc HW2.out.size (.cells #[.int .i64 (m : Int), .int .i64 an, .int .i64 ac, .int .i64 ak, U ap] 36))
        go_wp2_with fail
        refine (KL.out _ HW2a.out).mono ?_
        rintro e w3 ⟨rfl, hb⟩
        obtain ⟨c0, c1, c2, c3, c4⟩ := head_cells hb
        have HR0 := Lib.hid ((hb.block w.heap.size (by have := HW2.out.size; have h9 := (Array.getElem?_eq_some_iff.1 HR0.out).1; simp; omega)).trans ((Lib.alloc_old w2 (.cells #[.int .i64 (m : Int), .int .i64 an, .int .i64 ac, .int .i64 ak, U ap] 36) w.heap.size (Array.getElem?_eq_some_iff.1 HR0.out).1).trans HR0.out))
        have HW3 := Lib.hid (HW2a.out.trans (hb.mono HW2a.out.size))
        have hlt2 : w2.heap.size < w3.heap.size := by have := hb.size; simp at this; omega
        clear hb
        have HW4 := Lib.hid (HW3.out.alloc HW3.out.size (.cells #[.int .i64 lb, .int .i64 ln, .int .i64 lc, .int .i64 lk, U lp] 36))
        have HB4 := Lib.hid ((Below.refl w3.heap.size w3).alloc (Nat.le_refl _) (.cells #[.int .i64 lb, .int .i64 ln, .int .i64 lc, .int .i64 lk, U lp] 36))
        have d0 := (HB4.out.cell (p := ⟨w2.heap.size, 0, none⟩) hlt2).trans c0
        have d1 := (HB4.out.cell (p := ⟨w2.heap.size, 1, none⟩) hlt2).trans c1
        have d2 := (HB4.out.cell (p := ⟨w2.heap.size, 2, none⟩) hlt2).trans c2
        have d3 := (HB4.out.cell (p := ⟨w2.heap.size, 3, none⟩) hlt2).trans c3
        have d4 := (HB4.out.cell (p := ⟨w2.heap.size, 4, none⟩) hlt2).trans c4
        obtain ⟨l0, l1, l2, l3, l4⟩ := head_cells (Below.refl (w3.alloc (.cells #[.int .i64 lb, .int .i64 ln, .int .i64 lc, .int .i64 lk, U lp] 36)).heap.size (w3.alloc (.cells #[.int .i64 lb, .int .i64 ln, .int .i64 lc, .int .i64 lk, U lp] 36)))
        have HR0 := Lib.hid ((Lib.alloc_old w3 (.cells #[.int .i64 lb, .int .i64 ln, .int .i64 lc, .int .i64 lk, U lp] 36) w.heap.size (Array.getElem?_eq_some_iff.1 HR0.out).1).trans HR0.out)
        clear c0 c1 c2 c3 c4 hlt2
        go_wp2_with fail
        generalize w3.alloc (.cells #[.int .i64 lb, .int .i64 ln, .int .i64 lc, .int .i64 lk, U lp] 36) = w4 at *
        go_quiet (fail)
        have hh2 := HR0.out
        have hy0 := Lib.cell_of_heap hh2 0
        have hy1 := Lib.cell_of_heap hh2 1
        have hy2 := Lib.cell_of_heap hh2 2
        have hy3 := Lib.cell_of_heap hh2 3
        have hy4 := Lib.cell_of_heap hh2 4
        have hf0 := Lib.frozen_of_heap hh2 0
        have hf1 := Lib.frozen_of_heap hh2 1
        have hf2 := Lib.frozen_of_heap hh2 2
        have hf3 := Lib.frozen_of_heap hh2 3
        have hf4 := Lib.frozen_of_heap hh2 4
        clear hh2
        go_wp2
        have hh2 : (w4.drewN nq).heap[w.heap.size]? = _ := HR0.out
        have HWF := Lib.hid (quiet_b HW4.out nq)
        have hh2 := Go.Joins.block_setCell (i := 0) hh2 (.int .i64 (m : Int))
        have HWF := Lib.hid (HWF.out.setCell (p := ⟨w.heap.size, 0, none⟩) (Nat.le_refl _) (.int .i64 (m : Int)))
        have hh2 := Go.Joins.block_setCell (i := 1) hh2 (.int .i64 an)
        have HWF := Lib.hid (HWF.out.setCell (p := ⟨w.heap.size, 1, none⟩) (Nat.le_refl _) (.int .i64 an))
        have hh2 := Go.Joins.block_setCell (i := 2) hh2 (.int .i64 ac)
        have HWF := Lib.hid (HWF.out.setCell (p := ⟨w.heap.size, 2, none⟩) (Nat.le_refl _) (.int .i64 ac))
        have hh2 := Go.Joins.block_setCell (i := 3) hh2 (.int .i64 ak)
        have HWF := Lib.hid (HWF.out.setCell (p := ⟨w.heap.size, 3, none⟩) (Nat.le_refl _) (.int .i64 ak))
        have hh2 := Go.Joins.block_setCell (i := 4) hh2 (U ap)
        have HWF := Lib.hid (HWF.out.setCell (p := ⟨w.heap.size, 4, none⟩) (Nat.le_refl _) (U ap))
        simp only [List.setIfInBounds_toArray, List.set_cons_zero, List.set_cons_succ] at hh2
        have r0 := Lib.cell_of_heap hh2 0
        have r1 := Lib.cell_of_heap hh2 1
        have r2 := Lib.cell_of_heap hh2 2
        have r3 := Lib.cell_of_heap hh2 3
        have r4 := Lib.cell_of_heap hh2 4
        clear hh2 hy0 hy1 hy2 hy3 hy4 hf0 hf1 hf2 hf3 hf4 l0 l1 l2 l3 l4 d0 d1 d2 d3 d4
        refine bodyPost_ret (v := .tuple #[.agg #[.int .i64 (m : Int), .int .i64 an, .int .i64 ac, .int .i64 ak, U ap], .bool true, .bool false]) ?_ rfl ⟨by simp [HZ0.out], HWF.out⟩
        unfold results
        rw [show Try.f28.results = #[.cell 2 36, .tmp 3, .tmp 4] from rfl]
        go_simp
        try rfl
      | true =>
        by_cases hel : lb = (m : Int)
        · subst hel
          try simp only [Bool.and_false, Bool.and_true, Bool.true_and, Bool.false_and, decide_true, Bool.false_eq_true, if_false, if_true]
          go_enter Try.func28, Try.ntmps28
          go_wp2_with fail
          refine (KA.out _ HW.out).mono ?_
          rintro e w2 ⟨rfl, hb⟩
          have hr0 := (hb.block w.heap.size (by simp)).trans (heap_alloc_new w (.cells #[.int .i64 0, .int .i64 0, .int .i64 0, .int .i64 0, .int .u64 0] 36))
          have HR0 := Lib.hid hr0
          clear hr0
          have HW2 := Lib.hid (HW.out.trans (hb.mono HW.out.size))
          clear hb
          have HW2a := Lib.hid (HW2.out.alloc HW2.out.size (.cells #[.int .i64 (m : Int), .int .i64 an, .int .i64 ac, .int .i64 ak, U ap] 36))
          go_wp2_with fail
          refine (KL.out _ HW2a.out).mono ?_
          rintro e w3 ⟨rfl, hb⟩
          obtain ⟨c0, c1, c2, c3, c4⟩ := head_cells hb
          have HR0 := Lib.hid ((hb.block w.heap.size (by have := HW2.out.size; have h9 := (Array.getElem?_eq_some_iff.1 HR0.out).1; simp; omega)).trans ((Lib.alloc_old w2 (.cells #[.int .i64 (m : Int), .int .i64 an, .int .i64 ac, .int .i64 ak, U ap] 36) w.heap.size (Array.getElem?_eq_some_iff.1 HR0.out).1).trans HR0.out))
          have HW3 := Lib.hid (HW2a.out.trans (hb.mono HW2a.out.size))
          have hlt2 : w2.heap.size < w3.heap.size := by have := hb.size; simp at this; omega
          clear hb
          have HW4 := Lib.hid (HW3.out.alloc HW3.out.size (.cells #[.int .i64 (m : Int), .int .i64 ln, .int .i64 lc, .int .i64 lk, U lp] 36))
          have HB4 := Lib.hid ((Below.refl w3.heap.size w3).alloc (Nat.le_refl _) (.cells #[.int .i64 (m : Int), .int .i64 ln, .int .i64 lc, .int .i64 lk, U lp] 36))
          have d0 := (HB4.out.cell (p := ⟨w2.heap.size, 0, none⟩) hlt2).trans c0
          have d1 := (HB4.out.cell (p := ⟨w2.heap.size, 1, none⟩) hlt2).trans c1
          have d2 := (HB4.out.cell (p := ⟨w2.heap.size, 2, none⟩) hlt2).trans c2
          have d3 := (HB4.out.cell (p := ⟨w2.heap.size, 3, none⟩) hlt2).trans c3
          have d4 := (HB4.out.cell (p := ⟨w2.heap.size, 4, none⟩) hlt2).trans c4
          obtain ⟨l0, l1, l2, l3, l4⟩ := head_cells (Below.refl (w3.alloc (.cells #[.int .i64 (m : Int), .int .i64 ln, .int .i64 lc, .int .i64 lk, U lp] 36)).heap.size (w3.alloc (.cells #[.int .i64 (m : Int), .int .i64 ln, .int .i64 lc, .int .i64 lk, U lp] 36)))
          have HR0 := Lib.hid ((Lib.alloc_old w3 (.cells #[.int .i64 (m : Int), .int .i64 ln, .int .i64 lc, .int .i64 lk, U lp] 36) w.heap.size (Array.getElem?_eq_some_iff.1 HR0.out).1).trans HR0.out)
          clear c0 c1 c2 c3 c4 hlt2
          go_wp2_with fail
          generalize w3.alloc (.cells #[.int .i64 (m : Int), .int .i64 ln, .int .i64 lc, .int .i64 lk, U lp] 36) = w4 at *
          go_quiet (fail)
          have hh2 := HR0.out
          have hy0 := Lib.cell_of_heap hh2 0
          have hy1 := Lib.cell_of_heap hh2 1
          have hy2 := Lib.cell_of_heap hh2 2
          have hy3 := Lib.cell_of_heap hh2 3
          have hy4 := Lib.cell_of_heap hh2 4
          have hf0 := Lib.frozen_of_heap hh2 0
          have hf1 := Lib.frozen_of_heap hh2 1
          have hf2 := Lib.frozen_of_heap hh2 2
          have hf3 := Lib.frozen_of_heap hh2 3
          have hf4 := Lib.frozen_of_heap hh2 4
          clear hh2
          go_wp2
          have hh2 : (w4.drewN nq).heap[w.heap.size]? = _ := HR0.out
          have HWF := Lib.hid (quiet_b HW4.out nq)
          have hh2 := Go.Joins.block_setCell (i := 0) hh2 (.int .i64 (m : Int))
          have HWF := Lib.hid (HWF.out.setCell (p := ⟨w.heap.size, 0, none⟩) (Nat.le_refl _) (.int .i64 (m : Int)))
          have hh2 := Go.Joins.block_setCell (i := 1) hh2 (.int .i64 an)
          have HWF := Lib.hid (HWF.out.setCell (p := ⟨w.heap.size, 1, none⟩) (Nat.le_refl _) (.int .i64 an))
          have hh2 := Go.Joins.block_setCell (i := 2) hh2 (.int .i64 ac)
          have HWF := Lib.hid (HWF.out.setCell (p := ⟨w.heap.size, 2, none⟩) (Nat.le_refl _) (.int .i64 ac))
          have hh2 := Go.Joins.block_setCell (i := 3) hh2 (.int .i64 ak)
          have HWF := Lib.hid (HWF.out.setCell (p := ⟨w.heap.size, 3, none⟩) (Nat.le_refl _) (.int .i64 ak))
          have hh2 := Go.Joins.block_setCell (i := 4) hh2 (U ap)
          have HWF := Lib.hid (HWF.out.setCell (p := ⟨w.heap.size, 4, none⟩) (Nat.le_refl _) (U ap))
          simp only [List.setIfInBounds_toArray, List.set_cons_zero, List.set_cons_succ] at hh2
          have r0 := Lib.cell_of_heap hh2 0
          have r1 := Lib.cell_of_heap hh2 1
          have r2 := Lib.cell_of_heap hh2 2
          have r3 := Lib.cell_of_heap hh2 3
          have r4 := Lib.cell_of_heap hh2 4
          clear hh2 hy0 hy1 hy2 hy3 hy4 hf0 hf1 hf2 hf3 hf4 l0 l1 l2 l3 l4 d0 d1 d2 d3 d4
          refine bodyPost_ret (v := .tuple #[.agg #[.int .i64 (m : Int), .int .i64 an, .int .i64 ac, .int .i64 ak, U ap], .bool true, .bool true]) ?_ rfl ⟨by simp [HZ0.out], HWF.out⟩
          unfold results
          rw [show Try.f28.results = #[.cell 2 36, .tmp 3, .tmp 4] from rfl]
          go_simp
          try rfl
        · have hbl : (lb == (m : Int)) = false := by simpa using hel
          have HEl := Lib.hid hel
          have hdl : decide (lb = (m : Int)) = false := decide_eq_false hel
          clear hel
          try simp only [hdl, Bool.and_false, Bool.and_true, Bool.true_and, Bool.false_and, decide_true, Bool.false_eq_true, if_false, if_true]
          go_enter Try.func28, Try.ntmps28
          go_wp2_with fail
          refine (KA.out _ HW.out).mono ?_
          rintro e w2 ⟨rfl, hb⟩
          have hr0 := (hb.block w.heap.size (by simp)).trans (heap_alloc_new w (.cells #[.int .i64 0, .int .i64 0, .int .i64 0, .int .i64 0, .int .u64 0] 36))
          have HR0 := Lib.hid hr0
          clear hr0
          have HW2 := Lib.hid (HW.out.trans (hb.mono HW.out.size))
          clear hb
          have HW2a := Lib.hid (HW2.out.alloc HW2.out.size (.cells #[.int .i64 (m : Int), .int .i64 an, .int .i64 ac, .int .i64 ak, U ap] 36))
          go_wp2_with fail
          refine (KL.out _ HW2a.out).mono ?_
          rintro e w3 ⟨rfl, hb⟩
          obtain ⟨c0, c1, c2, c3, c4⟩ := head_cells hb
          have HR0 := Lib.hid ((hb.block w.heap.size (by have := HW2.out.size; have h9 := (Array.getElem?_eq_some_iff.1 HR0.out).1; simp; omega)).trans ((Lib.alloc_old w2 (.cells #[.int .i64 (m : Int), .int .i64 an, .int .i64 ac, .int .i64 ak, U ap] 36) w.heap.size (Array.getElem?_eq_some_iff.1 HR0.out).1).trans HR0.out))
          have HW3 := Lib.hid (HW2a.out.trans (hb.mono HW2a.out.size))
          have hlt2 : w2.heap.size < w3.heap.size := by have := hb.size; simp at this; omega
          clear hb
          have HW4 := Lib.hid (HW3.out.alloc HW3.out.size (.cells #[.int .i64 lb, .int .i64 ln, .int .i64 lc, .int .i64 lk, U lp] 36))
          have HB4 := Lib.hid ((Below.refl w3.heap.size w3).alloc (Nat.le_refl _) (.cells #[.int .i64 lb, .int .i64 ln, .int .i64 lc, .int .i64 lk, U lp] 36))
          have d0 := (HB4.out.cell (p := ⟨w2.heap.size, 0, none⟩) hlt2).trans c0
          have d1 := (HB4.out.cell (p := ⟨w2.heap.size, 1, none⟩) hlt2).trans c1
          have d2 := (HB4.out.cell (p := ⟨w2.heap.size, 2, none⟩) hlt2).trans c2
          have d3 := (HB4.out.cell (p := ⟨w2.heap.size, 3, none⟩) hlt2).trans c3
          have d4 := (HB4.out.cell (p := ⟨w2.heap.size, 4, none⟩) hlt2).trans c4
          obtain ⟨l0, l1, l2, l3, l4⟩ := head_cells (Below.refl (w3.alloc (.cells #[.int .i64 lb, .int .i64 ln, .int .i64 lc, .int .i64 lk, U lp] 36)).heap.size (w3.alloc (.cells #[.int .i64 lb, .int .i64 ln, .int .i64 lc, .int .i64 lk, U lp] 36)))
          have HR0 := Lib.hid ((Lib.alloc_old w3 (.cells #[.int .i64 lb, .int .i64 ln, .int .i64 lc, .int .i64 lk, U lp] 36) w.heap.size (Array.getElem?_eq_some_iff.1 HR0.out).1).trans HR0.out)
          clear c0 c1 c2 c3 c4 hlt2
          go_wp2_with fail
          generalize w3.alloc (.cells #[.int .i64 lb, .int .i64 ln, .int .i64 lc, .int .i64 lk, U lp] 36) = w4 at *
          go_quiet (fail)
          have hh2 := HR0.out
          have hy0 := Lib.cell_of_heap hh2 0
          have hy1 := Lib.cell_of_heap hh2 1
          have hy2 := Lib.cell_of_heap hh2 2
          have hy3 := Lib.cell_of_heap hh2 3
          have hy4 := Lib.cell_of_heap hh2 4
          have hf0 := Lib.frozen_of_heap hh2 0
          have hf1 := Lib.frozen_of_heap hh2 1
          have hf2 := Lib.frozen_of_heap hh2 2
          have hf3 := Lib.frozen_of_heap hh2 3
          have hf4 := Lib.frozen_of_heap hh2 4
          clear hh2
          go_wp2
          have hh2 : (w4.drewN nq).heap[w.heap.size]? = _ := HR0.out
          have HWF := Lib.hid (quiet_b HW4.out nq)
          have hh2 := Go.Joins.block_setCell (i := 0) hh2 (.int .i64 (m : Int))
          have HWF := Lib.hid (HWF.out.setCell (p := ⟨w.heap.size, 0, none⟩) (Nat.le_refl _) (.int .i64 (m : Int)))
          have hh2 := Go.Joins.block_setCell (i := 1) hh2 (.int .i64 an)
          have HWF := Lib.hid (HWF.out.setCell (p := ⟨w.heap.size, 1, none⟩) (Nat.le_refl _) (.int .i64 an))
          have hh2 := Go.Joins.block_setCell (i := 2) hh2 (.int .i64 ac)
          have HWF := Lib.hid (HWF.out.setCell (p := ⟨w.heap.size, 2, none⟩) (Nat.le_refl _) (.int .i64 ac))
          have hh2 := Go.Joins.block_setCell (i := 3) hh2 (.int .i64 ak)
          have HWF := Lib.hid (HWF.out.setCell (p := ⟨w.heap.size, 3, none⟩) (Nat.le_refl _) (.int .i64 ak))
          have hh2 := Go.Joins.block_setCell (i := 4) hh2 (U ap)
          have HWF := Lib.hid (HWF.out.setCell (p := ⟨w.heap.size, 4, none⟩) (Nat.le_refl _) (U ap))
          simp only [List.setIfInBounds_toArray, List.set_cons_zero, List.set_cons_succ] at hh2
          have r0 := Lib.cell_of_heap hh2 0
          have r1 := Lib.cell_of_heap hh2 1
          have r2 := Lib.cell_of_heap hh2 2
          have r3 := Lib.cell_of_heap hh2 3
          have r4 := Lib.cell_of_heap hh2 4
          clear hh2 hy0 hy1 hy2 hy3 hy4 hf0 hf1 hf2 hf3 hf4 l0 l1 l2 l3 l4 d0 d1 d2 d3 d4
          refine bodyPost_ret (v := .tuple #[.agg #[.int .i64 (m : Int), .int .i64 an, .int .i64 ac, .int .i64 ak, U ap], .bool true, .bool false]) ?_ rfl ⟨by simp [HZ0.out, HEl.out], HWF.out⟩
          unfold results
          rw [show Try.f28.results = #[.cell 2 36, .tmp 3, .tmp 4] from rfl]
          go_simp
          try rfl
    · have hba : (ab == (m : Int)) = false := by simpa using hea
      have HEa := Lib.hid hea
      have hda : decide (ab = (m : Int)) = false := decide_eq_false hea
      clear hea
      cases ol with
      | false =>
        try simp only [hda, Bool.and_false, Bool.and_true, Bool.true_and, Bool.false_and, decide_true, Bool.false_eq_true, if_false, if_true]
        go_enter Try.func28, Try.ntmps28
        go_wp2_with fail
        refine (KA.out _ HW.out).mono ?_
        rintro e w2 ⟨rfl, hb⟩
        have hr0 := (hb.block w.heap.size (by simp)).trans (heap_alloc_new w (.cells #[.int .i64 0, .int .i64 0, .int .i64 0, .int .i64 0, .int .u64 0] 36))
        have HR0 := Lib.hid hr0
        clear hr0
        have HW2 := Lib.hid (HW.out.trans (hb.mono HW.out.size))
        clear hb
        have HW2a := Lib.hid (HW2.out.alloc HW2.out.size (.cells #[.int .i64 ab, .int .i64 an, .int .i64 ac, .int .i64 ak, U ap] 36))
        go_wp2_with fail
        refine (KL.out _ HW2a.out).mono ?_
        rintro e w3 ⟨rfl, hb⟩
        obtain ⟨c0, c1, c2, c3, c4⟩ := head_cells hb
        have HR0 := Lib.hid ((hb.block w.heap.size (by have := HW2.out.size; have h9 := (Array.getElem?_eq_some_iff.1 HR0.out).1; simp; omega)).trans ((Lib.alloc_old w2 (.cells #[.int .i64 ab, .int .i64 an, .int .i64 ac, .int .i64 ak, U ap] 36) w.heap.size (Array.getElem?_eq_some_iff.1 HR0.out).1).trans HR0.out))
        have HW3 := Lib.hid (HW2a.out.trans (hb.mono HW2a.out.size))
        have hlt2 : w2.heap.size < w3.heap.size := by have := hb.size; simp at this; omega
        clear hb
        have HW4 := Lib.hid (HW3.out.alloc HW3.out.size (.cells #[.int .i64 lb, .int .i64 ln, .int .i64 lc, .int .i64 lk, U lp] 36))
        have HB4 := Lib.hid ((Below.refl w3.heap.size w3).alloc (Nat.le_refl _) (.cells #[.int .i64 lb, .int .i64 ln, .int .i64 lc, .int .i64 lk, U lp] 36))
        have d0 := (HB4.out.cell (p := ⟨w2.heap.size, 0, none⟩) hlt2).trans c0
        have d1 := (HB4.out.cell (p := ⟨w2.heap.size, 1, none⟩) hlt2).trans c1
        have d2 := (HB4.out.cell (p := ⟨w2.heap.size, 2, none⟩) hlt2).trans c2
        have d3 := (HB4.out.cell (p := ⟨w2.heap.size, 3, none⟩) hlt2).trans c3
        have d4 := (HB4.out.cell (p := ⟨w2.heap.size, 4, none⟩) hlt2).trans c4
        obtain ⟨l0, l1, l2, l3, l4⟩ := head_cells (Below.refl (w3.alloc (.cells #[.int .i64 lb, .int .i64 ln, .int .i64 lc, .int .i64 lk, U lp] 36)).heap.size (w3.alloc (.cells #[.int .i64 lb, .int .i64 ln, .int .i64 lc, .int .i64 lk, U lp] 36)))
        have HR0 := Lib.hid ((Lib.alloc_old w3 (.cells #[.int .i64 lb, .int .i64 ln, .int .i64 lc, .int .i64 lk, U lp] 36) w.heap.size (Array.getElem?_eq_some_iff.1 HR0.out).1).trans HR0.out)
        clear c0 c1 c2 c3 c4 hlt2
        go_wp2_with fail
        generalize w3.alloc (.cells #[.int .i64 lb, .int .i64 ln, .int .i64 lc, .int .i64 lk, U lp] 36) = w4 at *
        go_quiet (fail)
        have hh2 := HR0.out
        have hy0 := Lib.cell_of_heap hh2 0
        have hy1 := Lib.cell_of_heap hh2 1
        have hy2 := Lib.cell_of_heap hh2 2
        have hy3 := Lib.cell_of_heap hh2 3
        have hy4 := Lib.cell_of_heap hh2 4
        have hf0 := Lib.frozen_of_heap hh2 0
        have hf1 := Lib.frozen_of_heap hh2 1
        have hf2 := Lib.frozen_of_heap hh2 2
        have hf3 := Lib.frozen_of_heap hh2 3
        have hf4 := Lib.frozen_of_heap hh2 4
        clear hh2
        go_wp2
        have hh2 : (w4.drewN nq).heap[w.heap.size]? = _ := HR0.out
        have HWF := Lib.hid (quiet_b HW4.out nq)
        have hh2 := Go.Joins.block_setCell (i := 0) hh2 (.int .i64 0)
        have HWF := Lib.hid (HWF.out.setCell (p := ⟨w.heap.size, 0, none⟩) (Nat.le_refl _) (.int .i64 0))
        have hh2 := Go.Joins.block_setCell (i := 1) hh2 (.int .i64 0)
        have HWF := Lib.hid (HWF.out.setCell (p := ⟨w.heap.size, 1, none⟩) (Nat.le_refl _) (.int .i64 0))
        have hh2 := Go.Joins.block_setCell (i := 2) hh2 (.int .i64 0)
        have HWF := Lib.hid (HWF.out.setCell (p := ⟨w.heap.size, 2, none⟩) (Nat.le_refl _) (.int .i64 0))
        have hh2 := Go.Joins.block_setCell (i := 3) hh2 (.int .i64 0)
        have HWF := Lib.hid (HWF.out.setCell (p := ⟨w.heap.size, 3, none⟩) (Nat.le_refl _) (.int .i64 0))
        have hh2 := Go.Joins.block_setCell (i := 4) hh2 (.int .u64 0)
        have HWF := Lib.hid (HWF.out.setCell (p := ⟨w.heap.size, 4, none⟩) (Nat.le_refl _) (.int .u64 0))
        simp only [List.setIfInBounds_toArray, List.set_cons_zero, List.set_cons_succ] at hh2
        have r0 := Lib.cell_of_heap hh2 0
        have r1 := Lib.cell_of_heap hh2 1
        have r2 := Lib.cell_of_heap hh2 2
        have r3 := Lib.cell_of_heap hh2 3
        have r4 := Lib.cell_of_heap hh2 4
        clear hh2 hy0 hy1 hy2 hy3 hy4 hf0 hf1 hf2 hf3 hf4 l0 l1 l2 l3 l4 d0 d1 d2 d3 d4
        refine bodyPost_ret (v := .tuple #[.agg #[.int .i64 0, .int .i64 0, .int .i64 0, .int .i64 0, .int .u64 0], .bool false, .bool false]) ?_ rfl ⟨by simp [HZ0.out, HEa.out], HWF.out⟩
        unfold results
        rw [show Try.f28.results = #[.cell 2 36, .tmp 3, .tmp 4] from rfl]
        go_simp
        try rfl
      | true =>
        by_cases hel : lb = (m : Int)
        · subst hel
          try simp only [hda, Bool.and_false, Bool.and_true, Bool.true_and, Bool.false_and, decide_true, Bool.false_eq_true, if_false, if_true]
          go_enter Try.func28, Try.ntmps28
          go_wp2_with fail
          refine (KA.out _ HW.out).mono ?_
          rintro e w2 ⟨rfl, hb⟩
          have hr0 := (hb.block w.heap.size (by simp)).trans (heap_alloc_new w (.cells #[.int .i64 0, .int .i64 0, .int .i64 0, .int .i64 0, .int .u64 0] 36))
          have HR0 := Lib.hid hr0
          clear hr0
          have HW2 := Lib.hid (HW.out.trans (hb.mono HW.out.size))
          clear hb
          have HW2a := Lib.hid (HW2.out.alloc HW2.out.size (.cells #[.int .i64 ab, .int .i64 an, .int .i64 ac, .int .i64 ak, U ap] 36))
          go_wp2_with fail
          refine (KL.out _ HW2a.out).mono ?_
          rintro e w3 ⟨rfl, hb⟩
          obtain ⟨c0, c1, c2, c3, c4⟩ := head_cells hb
          have HR0 := Lib.hid ((hb.block w.heap.size (by have := HW2.out.size; have h9 := (Array.getElem?_eq_some_iff.1 HR0.out).1; simp; omega)).trans ((Lib.alloc_old w2 (.cells #[.int .i64 ab, .int .i64 an, .int .i64 ac, .int .i64 ak, U ap] 36) w.heap.size (Array.getElem?_eq_some_iff.1 HR0.out).1).trans HR0.out))
          have HW3 := Lib.hid (HW2a.out.trans (hb.mono HW2a.out.size))
          have hlt2 : w2.heap.size < w3.heap.size := by have := hb.size; simp at this; omega
          clear hb
          have HW4 := Lib.hid (HW3.out.alloc HW3.out.size (.cells #[.int .i64 (m : Int), .int .i64 ln, .int .i64 lc, .int .i64 lk, U lp] 36))
          have HB4 := Lib.hid ((Below.refl w3.heap.size w3).alloc (Nat.le_refl _) (.cells #[.int .i64 (m : Int), .int .i64 ln, .int .i64 lc, .int .i64 lk, U lp] 36))
          have d0 := (HB4.out.cell (p := ⟨w2.heap.size, 0, none⟩) hlt2).trans c0
          have d1 := (HB4.out.cell (p := ⟨w2.heap.size, 1, none⟩) hlt2).trans c1
          have d2 := (HB4.out.cell (p := ⟨w2.heap.size, 2, none⟩) hlt2).trans c2
          have d3 := (HB4.out.cell (p := ⟨w2.heap.size, 3, none⟩) hlt2).trans c3
          have d4 := (HB4.out.cell (p := ⟨w2.heap.size, 4, none⟩) hlt2).trans c4
          obtain ⟨l0, l1, l2, l3, l4⟩ := head_cells (Below.refl (w3.alloc (.cells #[.int .i64 (m : Int), .int .i64 ln, .int .i64 lc, .int .i64 lk, U lp] 36)).heap.size (w3.alloc (.cells #[.int .i64 (m : Int), .int .i64 ln, .int .i64 lc, .int .i64 lk, U lp] 36)))
          have HR0 := Lib.hid ((Lib.alloc_old w3 (.cells #[.int .i64 (m : Int), .int .i64 ln, .int .i64 lc, .int .i64 lk, U lp] 36) w.heap.size (Array.getElem?_eq_some_iff.1 HR0.out).1).trans HR0.out)
          clear c0 c1 c2 c3 c4 hlt2
          go_wp2_with fail
          generalize w3.alloc (.cells #[.int .i64 (m : Int), .int .i64 ln, .int .i64 lc, .int .i64 lk, U lp] 36) = w4 at *
          go_quiet (fail)
          have hh2 := HR0.out
          have hy0 := Lib.cell_of_heap hh2 0
          have hy1 := Lib.cell_of_heap hh2 1
          have hy2 := Lib.cell_of_heap hh2 2
          have hy3 := Lib.cell_of_heap hh2 3
          have hy4 := Lib.cell_of_heap hh2 4
          have hf0 := Lib.frozen_of_heap hh2 0
          have hf1 := Lib.frozen_of_heap hh2 1
          have hf2 := Lib.frozen_of_heap hh2 2
          have hf3 := Lib.frozen_of_heap hh2 3
          have hf4 := Lib.frozen_of_heap hh2 4
          clear hh2
          go_wp2
          have hh2 : (w4.drewN nq).heap[w.heap.size]? = _ := HR0.out
          have HWF := Lib.hid (quiet_b HW4.out nq)
          have hh2 := Go.Joins.block_setCell (i := 0) hh2 (.int .i64 (m : Int))
          have HWF := Lib.hid (HWF.out.setCell (p := ⟨w.heap.size, 0, none⟩) (Nat.le_refl _) (.int .i64 (m : Int)))
          have hh2 := Go.Joins.block_setCell (i := 1) hh2 (.int .i64 ln)
          have HWF := Lib.hid (HWF.out.setCell (p := ⟨w.heap.size, 1, none⟩) (Nat.le_refl _) (.int .i64 ln))
          have hh2 := Go.Joins.block_setCell (i := 2) hh2 (.int .i64 lc)
          have HWF := Lib.hid (HWF.out.setCell (p := ⟨w.heap.size, 2, none⟩) (Nat.le_refl _) (.int .i64 lc))
          have hh2 := Go.Joins.block_setCell (i := 3) hh2 (.int .i64 lk)
          have HWF := Lib.hid (HWF.out.setCell (p := ⟨w.heap.size, 3, none⟩) (Nat.le_refl _) (.int .i64 lk))
          have hh2 := Go.Joins.block_setCell (i := 4) hh2 (U lp)
          have HWF := Lib.hid (HWF.out.setCell (p := ⟨w.heap.size, 4, none⟩) (Nat.le_refl _) (U lp))
          simp only [List.setIfInBounds_toArray, List.set_cons_zero, List.set_cons_succ] at hh2
          have r0 := Lib.cell_of_heap hh2 0
          have r1 := Lib.cell_of_heap hh2 1
          have r2 := Lib.cell_of_heap hh2 2
          have r3 := Lib.cell_of_heap hh2 3
          have r4 := Lib.cell_of_heap hh2 4
          clear hh2 hy0 hy1 hy2 hy3 hy4 hf0 hf1 hf2 hf3 hf4 l0 l1 l2 l3 l4 d0 d1 d2 d3 d4
          refine bodyPost_ret (v := .tuple #[.agg #[.int .i64 (m : Int), .int .i64 ln, .int .i64 lc, .int .i64 lk, U lp], .bool false, .bool true]) ?_ rfl ⟨by simp [HZ0.out, HEa.out], HWF.out⟩
          unfold results
          rw [show Try.f28.results = #[.cell 2 36, .tmp 3, .tmp 4] from rfl]
          go_simp
          try rfl
        · have hbl : (lb == (m : Int)) = false := by simpa using hel
          have HEl := Lib.hid hel
          have hdl : decide (lb = (m : Int)) = false := decide_eq_false hel
          clear hel
          try simp only [hda, hdl, Bool.and_false, Bool.and_true, Bool.true_and, Bool.false_and, decide_true, Bool.false_eq_true, if_false, if_true]
          go_enter Try.func28, Try.ntmps28
          go_wp2_with fail
          refine (KA.out _ HW.out).mono ?_
          rintro e w2 ⟨rfl, hb⟩
          have hr0 := (hb.block w.heap.size (by simp)).trans (heap_alloc_new w (.cells #[.int .i64 0, .int .i64 0, .int .i64 0, .int .i64 0, .int .u64 0] 36))
          have HR0 := Lib.hid hr0
          clear hr0
          have HW2 := Lib.hid (HW.out.trans (hb.mono HW.out.size))
          clear hb
          have HW2a := Lib.hid (HW2.out.alloc HW2.out.size (.cells #[.int .i64 ab, .int .i64 an, .int .i64 ac, .int .i64 ak, U ap] 36))
          go_wp2_with fail
          refine (KL.out _ HW2a.out).mono ?_
          rintro e w3 ⟨rfl, hb⟩
          obtain ⟨c0, c1, c2, c3, c4⟩ := head_cells hb
          have HR0 := Lib.hid ((hb.block w.heap.size (by have := HW2.out.size; have h9 := (Array.getElem?_eq_some_iff.1 HR0.out).1; simp; omega)).trans ((Lib.alloc_old w2 (.cells #[.int .i64 ab, .int .i64 an, .int .i64 ac, .int .i64 ak, U ap] 36) w.heap.size (Array.getElem?_eq_some_iff.1 HR0.out).1).trans HR0.out))
          have HW3 := Lib.hid (HW2a.out.trans (hb.mono HW2a.out.size))
          have hlt2 : w2.heap.size < w3.heap.size := by have := hb.size; simp at this; omega
          clear hb
          have HW4 := Lib.hid (HW3.out.alloc HW3.out.size (.cells #[.int .i64 lb, .int .i64 ln, .int .i64 lc, .int .i64 lk, U lp] 36))
          have HB4 := Lib.hid ((Below.refl w3.heap.size w3).alloc (Nat.le_refl _) (.cells #[.int .i64 lb, .int .i64 ln, .int .i64 lc, .int .i64 lk, U lp] 36))
          have d0 := (HB4.out.cell (p := ⟨w2.heap.size, 0, none⟩) hlt2).trans c0
          have d1 := (HB4.out.cell (p := ⟨w2.heap.size, 1, none⟩) hlt2).trans c1
          have d2 := (HB4.out.cell (p := ⟨w2.heap.size, 2, none⟩) hlt2).trans c2
          have d3 := (HB4.out.cell (p := ⟨w2.heap.size, 3, none⟩) hlt2).trans c3
          have d4 := (HB4.out.cell (p := ⟨w2.heap.size, 4, none⟩) hlt2).trans c4
          obtain ⟨l0, l1, l2, l3, l4⟩ := head_cells (Below.refl (w3.alloc (.cells #[.int .i64 lb, .int .i64 ln, .int .i64 lc, .int .i64 lk, U lp] 36)).heap.size (w3.alloc (.cells #[.int .i64 lb, .int .i64 ln, .int .i64 lc, .int .i64 lk, U lp] 36)))
          have HR0 := Lib.hid ((Lib.alloc_old w3 (.cells #[.int .i64 lb, .int .i64 ln, .int .i64 lc, .int .i64 lk, U lp] 36) w.heap.size (Array.getElem?_eq_some_iff.1 HR0.out).1).trans HR0.out)
          clear c0 c1 c2 c3 c4 hlt2
          go_wp2_with fail
          generalize w3.alloc (.cells #[.int .i64 lb, .int .i64 ln, .int .i64 lc, .int .i64 lk, U lp] 36) = w4 at *
          go_quiet (fail)
          have hh2 := HR0.out
          have hy0 := Lib.cell_of_heap hh2 0
          have hy1 := Lib.cell_of_heap hh2 1
          have hy2 := Lib.cell_of_heap hh2 2
          have hy3 := Lib.cell_of_heap hh2 3
          have hy4 := Lib.cell_of_heap hh2 4
          have hf0 := Lib.frozen_of_heap hh2 0
          have hf1 := Lib.frozen_of_heap hh2 1
          have hf2 := Lib.frozen_of_heap hh2 2
          have hf3 := Lib.frozen_of_heap hh2 3
          have hf4 := Lib.frozen_of_heap hh2 4
          clear hh2
          go_wp2
          have hh2 : (w4.drewN nq).heap[w.heap.size]? = _ := HR0.out
          have HWF := Lib.hid (quiet_b HW4.out nq)
          have hh2 := Go.Joins.block_setCell (i := 0) hh2 (.int .i64 0)
          have HWF := Lib.hid (HWF.out.setCell (p := ⟨w.heap.size, 0, none⟩) (Nat.le_refl _) (.int .i64 0))
          have hh2 := Go.Joins.block_setCell (i := 1) hh2 (.int .i64 0)
          have HWF := Lib.hid (HWF.out.setCell (p := ⟨w.heap.size, 1, none⟩) (Nat.le_refl _) (.int .i64 0))
          have hh2 := Go.Joins.block_setCell (i := 2) hh2 (.int .i64 0)
          have HWF := Lib.hid (HWF.out.setCell (p := ⟨w.heap.size, 2, none⟩) (Nat.le_refl _) (.int .i64 0))
          have hh2 := Go.Joins.block_setCell (i := 3) hh2 (.int .i64 0)
          have HWF := Lib.hid (HWF.out.setCell (p := ⟨w.heap.size, 3, none⟩) (Nat.le_refl _) (.int .i64 0))
          have hh2 := Go.Joins.block_setCell (i := 4) hh2 (.int .u64 0)
          have HWF := Lib.hid (HWF.out.setCell (p := ⟨w.heap.size, 4, none⟩) (Nat.le_refl _) (.int .u64 0))
          simp only [List.setIfInBounds_toArray, List.set_cons_zero, List.set_cons_succ] at hh2
          have r0 := Lib.cell_of_heap hh2 0
          have r1 := Lib.cell_of_heap hh2 1
          have r2 := Lib.cell_of_heap hh2 2
          have r3 := Lib.cell_of_heap hh2 3
          have r4 := Lib.cell_of_heap hh2 4
          clear hh2 hy0 hy1 hy2 hy3 hy4 hf0 hf1 hf2 hf3 hf4 l0 l1 l2 l3 l4 d0 d1 d2 d3 d4
          refine bodyPost_ret (v := .tuple #[.agg #[.int .i64 0, .int .i64 0, .int .i64 0, .int .i64 0, .int .u64 0], .bool false, .bool false]) ?_ rfl ⟨by simp [HZ0.out, HEa.out, HEl.out], HWF.out⟩
          unfold results
          rw [show Try.f28.results = #[.cell 2 36, .tmp 3, .tmp 4] from rfl]
          go_simp
          try rfl
end Go.Proofs.Ytgkojedgamglgaa
