/- The walk of node.Get. Condition: the words can be read. -/
import Derived.Test.YtgkojedgamglgaaNodeW1
import Derived.Test.YtgkojedgamglgaaNodePlain2
import Derived.Test.YtgkojedgamglgaaHeadWalks2
import Derived.Test.YtgkojedgamglgaaRegion4
namespace Go.Proofs.Ytgkojedgamglgaa
open Go.RowKit
set_option linter.unusedVariables false
set_option linter.unusedSimpArgs false
theorem infoRn : (Try.prog.info? 81).map (fun i => (i.zero, i.size, i.bytes)) = some (some (.agg #[.int .i64 0, .int .i64 0]), 2, 16) := by kernel_rfl
set_option maxRecDepth 100000 in
set_option maxHeartbeats 8000000 in
theorem nGet_cap (xs : List (BitVec 64)) (A : Option Addr) (c : Nat) (w : World) (hr : RdU w A xs) (hc : xs.length ≤ c) (hm : c ≤ maxLen) :
    Calls Try.prog 52 #[.slice A xs.length c] w fun e w' => (∃ B d, e = .returned (.tuple #[nodeV (tellN xs) B (tellR xs) d, .bool (nodeOk xs)]) ∧ RdR w' B (tellR xs) ∧ (tellR xs).length ≤ d ∧ d ≤ maxLen) ∧ Below w.heap.size w w' := by
  have hm' := hm
  unfold maxLen at hm'
  have HR := Lib.hid hr
  clear hr
  have HW := Lib.hid ((Below.refl w.heap.size w).alloc (Nat.le_refl _) (.cells #[.int .i64 0, .int .i64 0, .int .i64 0, .slice none 0 0] 84))
  have HZ := Lib.hid (fun (h : nodeOk xs = false) => show nodeV (tellN xs) none (tellR xs) 0 = .agg #[.int .i64 0, .int .i64 0, .int .i64 0, .slice none 0 0] ∧ tellR xs = [] by unfold tellN tellR; rw [h]; exact ⟨rfl, rfl⟩)
  by_cases hl : xs.length = 8
  rotate_left
  · skip
    have HNO := Lib.hid (show nodeOk xs = false by unfold nodeOk; rw [decide_eq_false hl]; rfl)
    obtain ⟨hz1, hz2⟩ := HZ.out HNO.out
    have HZ1 := Lib.hid hz1
    have HZ2 := Lib.hid hz2
    clear hz1 hz2 HZ
    have hne : ((xs.length : Int) != 8) = true := by rw [bne_iff_ne]; omega
    have hne2 : ¬ ((xs.length : Int) = 8) := by omega
    clear hl
    go_enter Try.func52, Try.ntmps52
    go_wp2
    refine bodyPost_ret (v := .tuple #[.agg #[.int .i64 0, .int .i64 0, .int .i64 0, .slice none 0 0], .bool false]) ?_ rfl ⟨⟨none, 0, by rw [HZ1.out, HNO.out], by rw [HZ2.out]; exact ⟨RdR.nil_, by simp, by unfold maxLen; simp⟩⟩, HW.out⟩
    unfold results
    rw [show Try.f52.results = #[.cell 2 84, .tmp 3] from rfl]
    go_simp
    try rfl
  obtain ⟨b, off, rfl, hcell⟩ := (HR.out.below HW.out).at_ (show 0 < xs.length by omega)
  have HC := Lib.hid hcell
  clear hcell
  obtain ⟨x0, x1, x2, x3, x4, x5, x6, x7, hxs⟩ := node_eight hl
  have HXS := Lib.hid hxs
  have HLL := Lib.hid hl
  have g0 : xs.getD 0 0 = x0 := by rw [hxs]; rfl
  have g1 : xs.getD 1 0 = x1 := by rw [hxs]; rfl
  have hc0 := HC.out 0 (by omega)
  have hc1 := HC.out 1 (by omega)
  simp only [hxs, List.getElem_cons_succ, List.getElem_cons_zero, Nat.add_zero] at hc0 hc1
  have hbl : b < (w.alloc (.cells #[.int .i64 0, .int .i64 0, .int .i64 0, .slice none 0 0] 84)).heap.size := cell_lt hc0
  have HRW := Lib.hid (HR.out.below HW.out)
  rw [hl]
  have h8c : 8 ≤ c := by omega
  clear hxs
  by_cases h32 : x0 >>> 32 = 0#64
  rotate_left
  · skip
    have HNO := Lib.hid (show nodeOk xs = false by unfold nodeOk; rw [g0, decide_eq_false h32]; simp)
    obtain ⟨hz1, hz2⟩ := HZ.out HNO.out
    have HZ1 := Lib.hid hz1
    have HZ2 := Lib.hid hz2
    clear hz1 hz2 HZ
    have k1 : (x0 >>> 32 != 0#64) = true := by rw [bne_iff_ne]; exact h32
    have k2 : (x0 >>> 32 != BitVec.ofInt 64 0) = true := k1
    clear h32 hl
    go_enter Try.func52, Try.ntmps52
    go_wp2
    refine bodyPost_ret (v := .tuple #[.agg #[.int .i64 0, .int .i64 0, .int .i64 0, .slice none 0 0], .bool false]) ?_ rfl ⟨⟨none, 0, by rw [HZ1.out, HNO.out], by rw [HZ2.out]; exact ⟨RdR.nil_, by simp, by unfold maxLen; simp⟩⟩, HW.out⟩
    unfold results
    rw [show Try.f52.results = #[.cell 2 84, .tmp 3] from rfl]
    go_simp
    try rfl
  have k1 : (x0 >>> 32 != 0#64) = false := by rw [h32]; rfl
  have k2 : (x0 >>> 32 != BitVec.ofInt 64 0) = false := k1
  by_cases hsz : x1.toNat ≤ 1099511627776
  rotate_left
  · skip
    have HNO := Lib.hid (show nodeOk xs = false by unfold nodeOk; rw [g1, decide_eq_false hsz]; simp)
    obtain ⟨hz1, hz2⟩ := HZ.out HNO.out
    have HZ1 := Lib.hid hz1
    have HZ2 := Lib.hid hz2
    clear hz1 hz2 HZ
    have k3 : BitVec.ofInt 64 1099511627776 < x1 := BitVec.lt_def.2 (by simp; omega)
    clear h32 hl hsz
    go_enter Try.func52, Try.ntmps52
    go_wp2
    refine bodyPost_ret (v := .tuple #[.agg #[.int .i64 0, .int .i64 0, .int .i64 0, .slice none 0 0], .bool false]) ?_ rfl ⟨⟨none, 0, by rw [HZ1.out, HNO.out], by rw [HZ2.out]; exact ⟨RdR.nil_, by simp, by unfold maxLen; simp⟩⟩, HW.out⟩
    unfold results
    rw [show Try.f52.results = #[.cell 2 84, .tmp 3] from rfl]
    go_simp
    try rfl
  have k3 : ¬ BitVec.ofInt 64 1099511627776 < x1 := fun h => by have := BitVec.lt_def.1 h; simp at this; omega
  have HOK := Lib.hid (show nodeOk xs = (nodeW (getN xs) (getR xs) == xs) by unfold nodeOk; rw [decide_eq_true hl, g0, g1, decide_eq_true h32, decide_eq_true hsz]; rfl)
  obtain ⟨m0, hm0⟩ : ∃ m, x0 &&& 255#64 = m := ⟨_, rfl⟩
  obtain ⟨m1, hm1⟩ : ∃ m, x0 >>> 8 = m := ⟨_, rfl⟩
  have HN := Lib.hid (show getN xs = ⟨m0.toInt, m1.toInt, x1.toInt⟩ by unfold getN; rw [g0, g1, hm0, hm1])
  have HGR := Lib.hid (show getR xs = ((words4 xs).takeWhile (fun v => v != 0#64)).map unR from rfl)
  have HRS := Lib.hid (show RdU (w.alloc (.cells #[.int .i64 0, .int .i64 0, .int .i64 0, .slice none 0 0] 84)) (some ⟨b, off + 2, none⟩) (words4 xs) from (HRW.out.drop 2).take 4)
  have HL4 := Lib.hid (words4_len hl)
  clear h32 hsz hl g0 g1 HC
  go_enter Try.func52, Try.ntmps52
  go_wp2_with fail
  apply wp_region_last 68 (Eqs _ :: Eqs _ :: Eqs _ :: Eqs _ :: Eqs _ :: Eqs _ :: Eqs _ :: Eqs _ :: Eqs _ :: Eqs _ :: Eqs _ :: Eqs _ :: Eqs _ :: Eqs _ :: Eqs _ :: (BoxF (w.heap.size + 1) #[.int .i64 0, .int .i64 0, .int .i64 0, .slice none 0 0] 84) :: []) rfl (by kernel_rfl) (by rfl) (stab_cons (stab_eq _) (stab_cons (stab_eq _) (stab_cons (stab_eq _) (stab_cons (stab_eq _) (stab_cons (stab_eq _) (stab_cons (stab_eq _) (stab_cons (stab_eq _) (stab_cons (stab_eq _) (stab_cons (stab_eq _) (stab_cons (stab_eq _) (stab_cons (stab_eq _) (stab_cons (stab_eq _) (stab_cons (stab_eq _) (stab_cons (stab_eq _) (stab_cons (stab_eq _) (stab_cons stab_box stab_nil)))))))))))))))) (by kernel_rfl) (by kernel_rfl) (by kernel_rfl)
  case hstep =>
    simp only [List.dropLast_cons_cons, List.dropLast_singleton]
    refine StepsOK.cons ?_ ?_
    · -- 0: Go.Op.move (Go.Operand.tmp 0)
      intro a w1 hR1 hF hU hsz
      have e0 : a.eval (.tmp 0) = _ := hU 0 (by kernel_rfl)
      rw [if_pos (by rfl)]
      intro K hK
      clear hF hU hsz
      obtain ⟨q1, q2, q3⟩ := eval_rest a
      generalize hρ : a.eval = ρ
      rw [hρ] at q1 q2 q3 e0
      clear hρ
      have u1 := OpUp_value Try.prog K
      have u2 := OpUp_enter Try.prog K
      go_simp
      exact hK _ _ (Stood.refl _) rfl
    refine StepsOK.cons ?_ ?_
    · -- 1: Go.Op.indexAddr 28 (Go.Operand.tmp 24) (Go.Operand.const (Go.Value.int Go.IntKin
      intro a w1 hR1 hF hU hsz
      have e24 : a.eval (.tmp 24) = _ := hF 0 _ _ rfl rfl (by kernel_rfl)
      rw [if_pos (by rfl)]
      intro K hK
      clear hF hU hsz
      obtain ⟨q1, q2, q3⟩ := eval_rest a
      generalize hρ : a.eval = ρ
      rw [hρ] at q1 q2 q3 e24
      clear hρ
      have u1 := OpUp_value Try.prog K
      have u2 := OpUp_enter Try.prog K
      go_simp
      exact hK _ _ (Stood.refl _) rfl
    refine StepsOK.cons ?_ ?_
    · -- 2: Go.Op.load 22 (Go.Operand.tmp 25)
      intro a w1 hR1 hF hU hsz
      have e25 : a.eval (.tmp 25) = _ := hF 1 _ _ rfl rfl (by kernel_rfl)
      rw [if_pos (by rfl)]
      intro K hK
      clear hF hU hsz
      have hld := ((Stood.cur hR1).cell (p := ⟨b, off, none⟩) hbl).trans hc0
      obtain ⟨q1, q2, q3⟩ := eval_rest a
      generalize hρ : a.eval = ρ
      rw [hρ] at q1 q2 q3 e25
      clear hρ
      have u1 := OpUp_value Try.prog K
      have u2 := OpUp_enter Try.prog K
      go_simp
      exact hK _ _ (Stood.refl _) rfl
    refine StepsOK.cons ?_ ?_
    · -- 3: Go.Op.binOp Go.BinOp.and 22 (Go.Operand.tmp 26) (Go.Operand.const (Go.Value.int 
      intro a w1 hR1 hF hU hsz
      have e26 : a.eval (.tmp 26) = _ := hF 2 _ _ rfl rfl (by kernel_rfl)
      rw [if_pos (by rfl)]
      intro K hK
      clear hF hU hsz
      obtain ⟨q1, q2, q3⟩ := eval_rest a
      generalize hρ : a.eval = ρ
      rw [hρ] at q1 q2 q3 e26
      clear hρ
      have u1 := OpUp_value Try.prog K
      have u2 := OpUp_enter Try.prog K
      go_simp
      exact hK _ _ (Stood.refl _) rfl
    refine StepsOK.cons ?_ ?_
    · -- 4: Go.Op.convert 22 3 (Go.Operand.tmp 27)
      intro a w1 hR1 hF hU hsz
      have e27 : a.eval (.tmp 27) = _ := hF 3 _ _ rfl rfl (by kernel_rfl)
      rw [if_pos (by rfl)]
      intro K hK
      clear hF hU hsz
      obtain ⟨q1, q2, q3⟩ := eval_rest a
      generalize hρ : a.eval = ρ
      rw [hρ] at q1 q2 q3 e27
      clear hρ
      have u1 := OpUp_value Try.prog K
      have u2 := OpUp_enter Try.prog K
      go_simp
      exact hK _ _ (Stood.refl _) rfl
    refine StepsOK.cons ?_ ?_
    · -- 5: Go.Op.move (Go.Operand.tmp 0)
      intro a w1 hR1 hF hU hsz
      have e0 : a.eval (.tmp 0) = _ := hU 0 (by kernel_rfl)
      rw [if_pos (by rfl)]
      intro K hK
      clear hF hU hsz
      obtain ⟨q1, q2, q3⟩ := eval_rest a
      generalize hρ : a.eval = ρ
      rw [hρ] at q1 q2 q3 e0
      clear hρ
      have u1 := OpUp_value Try.prog K
      have u2 := OpUp_enter Try.prog K
      go_simp
      exact hK _ _ (Stood.refl _) rfl
    refine StepsOK.cons ?_ ?_
    · -- 6: Go.Op.indexAddr 28 (Go.Operand.tmp 29) (Go.Operand.const (Go.Value.int Go.IntKin
      intro a w1 hR1 hF hU hsz
      have e29 : a.eval (.tmp 29) = _ := hF 5 _ _ rfl rfl (by kernel_rfl)
      rw [if_pos (by rfl)]
      intro K hK
      clear hF hU hsz
      obtain ⟨q1, q2, q3⟩ := eval_rest a
      generalize hρ : a.eval = ρ
      rw [hρ] at q1 q2 q3 e29
      clear hρ
      have u1 := OpUp_value Try.prog K
      have u2 := OpUp_enter Try.prog K
      go_simp
      exact hK _ _ (Stood.refl _) rfl
    refine StepsOK.cons ?_ ?_
    · -- 7: Go.Op.load 22 (Go.Operand.tmp 30)
      intro a w1 hR1 hF hU hsz
      have e30 : a.eval (.tmp 30) = _ := hF 6 _ _ rfl rfl (by kernel_rfl)
      rw [if_pos (by rfl)]
      intro K hK
      clear hF hU hsz
      have hld := ((Stood.cur hR1).cell (p := ⟨b, off, none⟩) hbl).trans hc0
      obtain ⟨q1, q2, q3⟩ := eval_rest a
      generalize hρ : a.eval = ρ
      rw [hρ] at q1 q2 q3 e30
      clear hρ
      have u1 := OpUp_value Try.prog K
      have u2 := OpUp_enter Try.prog K
      go_simp
      exact hK _ _ (Stood.refl _) rfl
    refine StepsOK.cons ?_ ?_
    · -- 8: Go.Op.binOp Go.BinOp.shr 22 (Go.Operand.tmp 31) (Go.Operand.const (Go.Value.int 
      intro a w1 hR1 hF hU hsz
      have e31 : a.eval (.tmp 31) = _ := hF 7 _ _ rfl rfl (by kernel_rfl)
      rw [if_pos (by rfl)]
      intro K hK
      clear hF hU hsz
      obtain ⟨q1, q2, q3⟩ := eval_rest a
      generalize hρ : a.eval = ρ
      rw [hρ] at q1 q2 q3 e31
      clear hρ
      have u1 := OpUp_value Try.prog K
      have u2 := OpUp_enter Try.prog K
      go_simp
      exact hK _ _ (Stood.refl _) rfl
    refine StepsOK.cons ?_ ?_
    · -- 9: Go.Op.convert 22 3 (Go.Operand.tmp 32)
      intro a w1 hR1 hF hU hsz
      have e32 : a.eval (.tmp 32) = _ := hF 8 _ _ rfl rfl (by kernel_rfl)
      rw [if_pos (by rfl)]
      intro K hK
      clear hF hU hsz
      obtain ⟨q1, q2, q3⟩ := eval_rest a
      generalize hρ : a.eval = ρ
      rw [hρ] at q1 q2 q3 e32
      clear hρ
      have u1 := OpUp_value Try.prog K
      have u2 := OpUp_enter Try.prog K
      go_simp
      exact hK _ _ (Stood.refl _) rfl
    refine StepsOK.cons ?_ ?_
    · -- 10: Go.Op.move (Go.Operand.tmp 0)
      intro a w1 hR1 hF hU hsz
      have e0 : a.eval (.tmp 0) = _ := hU 0 (by kernel_rfl)
      rw [if_pos (by rfl)]
      intro K hK
      clear hF hU hsz
      obtain ⟨q1, q2, q3⟩ := eval_rest a
      generalize hρ : a.eval = ρ
      rw [hρ] at q1 q2 q3 e0
      clear hρ
      have u1 := OpUp_value Try.prog K
      have u2 := OpUp_enter Try.prog K
      go_simp
      exact hK _ _ (Stood.refl _) rfl
    refine StepsOK.cons ?_ ?_
    · -- 11: Go.Op.indexAddr 28 (Go.Operand.tmp 34) (Go.Operand.const (Go.Value.int Go.IntKin
      intro a w1 hR1 hF hU hsz
      have e34 : a.eval (.tmp 34) = _ := hF 10 _ _ rfl rfl (by kernel_rfl)
      rw [if_pos (by rfl)]
      intro K hK
      clear hF hU hsz
      obtain ⟨q1, q2, q3⟩ := eval_rest a
      generalize hρ : a.eval = ρ
      rw [hρ] at q1 q2 q3 e34
      clear hρ
      have u1 := OpUp_value Try.prog K
      have u2 := OpUp_enter Try.prog K
      go_simp
      exact hK _ _ (Stood.refl _) rfl
    refine StepsOK.cons ?_ ?_
    · -- 12: Go.Op.load 22 (Go.Operand.tmp 35)
      intro a w1 hR1 hF hU hsz
      have e35 : a.eval (.tmp 35) = _ := hF 11 _ _ rfl rfl (by kernel_rfl)
      rw [if_pos (by rfl)]
      intro K hK
      clear hF hU hsz
      have hld := ((Stood.cur hR1).cell (p := ⟨b, off + 1, none⟩) hbl).trans hc1
      obtain ⟨q1, q2, q3⟩ := eval_rest a
      generalize hρ : a.eval = ρ
      rw [hρ] at q1 q2 q3 e35
      clear hρ
      have u1 := OpUp_value Try.prog K
      have u2 := OpUp_enter Try.prog K
      go_simp
      exact hK _ _ (Stood.refl _) rfl
    refine StepsOK.cons ?_ ?_
    · -- 13: Go.Op.convert 22 3 (Go.Operand.tmp 36)
      intro a w1 hR1 hF hU hsz
      have e36 : a.eval (.tmp 36) = _ := hF 12 _ _ rfl rfl (by kernel_rfl)
      rw [if_pos (by rfl)]
      intro K hK
      clear hF hU hsz
      obtain ⟨q1, q2, q3⟩ := eval_rest a
      generalize hρ : a.eval = ρ
      rw [hρ] at q1 q2 q3 e36
      clear hρ
      have u1 := OpUp_value Try.prog K
      have u2 := OpUp_enter Try.prog K
      go_simp
      exact hK _ _ (Stood.refl _) rfl
    refine StepsOK.cons ?_ ?_
    · -- 14: Go.Op.build 84 #[(0, Go.Operand.tmp 28), (1, Go.Operand.tmp 33), (2, Go.Operand.
      intro a w1 hR1 hF hU hsz
      have e28 : a.eval (.tmp 28) = _ := hF 4 _ _ rfl rfl (by kernel_rfl)
      have e33 : a.eval (.tmp 33) = _ := hF 9 _ _ rfl rfl (by kernel_rfl)
      have e37 : a.eval (.tmp 37) = _ := hF 13 _ _ rfl rfl (by kernel_rfl)
      rw [if_pos (by rfl)]
      intro K hK
      clear hF hU hsz
      obtain ⟨q1, q2, q3⟩ := eval_rest a
      generalize hρ : a.eval = ρ
      rw [hρ] at q1 q2 q3 e28 e33 e37
      clear hρ
      have u1 := OpUp_value Try.prog K
      have u2 := OpUp_enter Try.prog K
      go_simp
      exact hK _ _ (Stood.refl _) rfl
    refine StepsOK.cons ?_ ?_
    · -- 15: Go.Op.alloc 84
      intro a w1 hR1 hF hU hsz
      rw [if_pos (by rfl)]
      intro K hK
      clear hF hU hsz
      obtain ⟨q1, q2, q3⟩ := eval_rest a
      generalize hρ : a.eval = ρ
      rw [hρ] at q1 q2 q3
      clear hρ
      have u1 := OpUp_value Try.prog K
      have u2 := OpUp_enter Try.prog K
      go_simp
      exact hK _ _ ((Below.refl _ _).alloc (Nat.le_refl _) _) ⟨_, rfl, by have h1 := hR1.size; simp at h1 ⊢; omega, heap_alloc_new w1 _⟩
    exact StepsOK.nil
  case hend =>
    intro vs0 w1 hR1 hH0
    obtain ⟨vs1, rfl, hH1⟩ := hH0.eq_
    obtain ⟨vs2, rfl, hH2⟩ := hH1.eq_
    obtain ⟨vs3, rfl, hH3⟩ := hH2.eq_
    obtain ⟨vs4, rfl, hH4⟩ := hH3.eq_
    obtain ⟨vs5, rfl, hH5⟩ := hH4.eq_
    obtain ⟨vs6, rfl, hH6⟩ := hH5.eq_
    obtain ⟨vs7, rfl, hH7⟩ := hH6.eq_
    obtain ⟨vs8, rfl, hH8⟩ := hH7.eq_
    obtain ⟨vs9, rfl, hH9⟩ := hH8.eq_
    obtain ⟨vs10, rfl, hH10⟩ := hH9.eq_
    obtain ⟨vs11, rfl, hH11⟩ := hH10.eq_
    obtain ⟨vs12, rfl, hH12⟩ := hH11.eq_
    obtain ⟨vs13, rfl, hH13⟩ := hH12.eq_
    obtain ⟨vs14, rfl, hH14⟩ := hH13.eq_
    obtain ⟨vs15, rfl, hH15⟩ := hH14.eq_
    obtain ⟨v15, vs16, rfl, hv15, hH16⟩ := hH15.cons
    obtain rfl := hH16.nil
    clear hH0 hH1 hH2 hH3 hH4 hH5 hH6 hH7 hH8 hH9 hH10 hH11 hH12 hH13 hH14 hH15 hH16
    simp only [List.dropLast_cons_cons, List.dropLast_singleton, putAll, Act.put, List.setIfInBounds_toArray, List.set_cons_zero, List.set_cons_succ]
    obtain ⟨q, rfl, hq6, hh6⟩ := hv15
    have HB := Lib.hid ((Stood.cur hR1) : Below _ _ _)
    obtain ⟨s0, s1, s2, s3⟩ := cells4 hh6
    obtain ⟨t0, t1, t2, t3⟩ := frozen4 hh6
    have hh7 := heap_set4 hh6 (.int .i64 m0.toInt) (.int .i64 m1.toInt) (.int .i64 x1.toInt) (.slice none 0 0)
    have HB := Lib.hid (below_set4 HB.out (show _ ≤ q by simp; omega) (.int .i64 m0.toInt) (.int .i64 m1.toInt) (.int .i64 x1.toInt) (.slice none 0 0))
    go_wp2
    generalize hw9 : ((((w1.setCell ⟨q, 0, none⟩ (.int .i64 m0.toInt)).setCell ⟨q, 1, none⟩ (.int .i64 m1.toInt)).setCell ⟨q, 2, none⟩ (.int .i64 x1.toInt)).setCell ⟨q, 3, none⟩ (.slice none 0 0)) = w9 at *
    have HQ := Lib.hid hh7
    have HQG := Lib.hid (show w.heap.size < q by omega)
    clear hh6 hh7 s0 s1 s2 s3 t0 t1 t2 t3 hw9 hR1 hc0 hc1 k1 k2 k3 hq6
    go_loopw [42] (fun i wr => ∃ (k : Nat) (B : Option Addr) (d : Nat), k ≤ 4 ∧ i = .int .i64 k ∧ Go.RowKit.Hid (((words4 xs).take k).all (fun v => v != 0#64) = true) ∧ wr.heap[q]? = some (.cells #[.int .i64 m0.toInt, .int .i64 m1.toInt, .int .i64 x1.toInt, .slice B k d] 84 (0, 0)) ∧ OwnR 81 wr (q + 1) B (((words4 xs).take k).map unR) d ∧ Below (w.alloc (.cells #[.int .i64 0, .int .i64 0, .int .i64 0, .slice none 0 0] 84)).heap.size (w.alloc (.cells #[.int .i64 0, .int .i64 0, .int .i64 0, .slice none 0 0] 84)) wr) (fun i _ => 4 - (intOf i).toNat)
    case atStart => exact ⟨0, none, 0, by omega, rfl, Lib.hid rfl, HQ.out, OwnR.nil_ _ _, HB.out⟩
    case round =>
      obtain ⟨k, B, d, hk, rfl, hall, hhq, hown, hbw⟩ := hrel
      have HALL := Lib.hid hall.out
      have HQ := Lib.hid hhq
      have HO := Lib.hid hown
      have HB := Lib.hid hbw
      have HRL := Lib.hid (show (((words4 xs).take k).map unR).length = k by rw [List.length_map, List.length_take, HL4.out]; omega)
      have HBN := Lib.hid (show blk B = none ∨ blk B ≠ some w.heap.size by
        cases hB : blk B with
        | none => exact .inl rfl
        | some j => exact .inr (fun e => by cases e; have h1 := (hown.lt _ hB).1; have h2 := HQG.out; omega))
      clear hall hhq hown hbw
      by_cases hlt : k < 4
      · obtain ⟨lb, lo, hA, hcells⟩ := (HRS.out.below HB.out).at_ (show k < (words4 xs).length by rw [HL4.out]; exact hlt)
        cases hA
        have hk1 := hcells k (by rw [HL4.out]; exact hlt)
        have HA2 := Lib.hid (all_take_succ (fun v => v != 0#64) (words4 xs) k (by rw [HL4.out]; exact hlt))
        have HU2 := Lib.hid (unR_take (words4 xs) k (by rw [HL4.out]; exact hlt))
        have HST := Lib.hid (takeWhile_stop (fun v => v != 0#64) (words4 xs) k (by rw [HL4.out]; exact hlt))
        clear hcells
        generalize (words4 xs)[k]'(by rw [HL4.out]; exact hlt) = y at *
        have e1 : IntKind.i64.wrap ((k : Int) + 1) = (k : Int) + 1 := IntWalk.i64_in _ (by omega)
        obtain ⟨p0, p1, p2, p3⟩ := cells4 HQ.out
        obtain ⟨f0, f1, f2, f3⟩ := frozen4 HQ.out
        by_cases hy : y = 0#64
        · have hy1 : (y == 0#64) = true := by rw [hy]; rfl
          have hy2 : (y == BitVec.ofInt 64 0) = true := hy1
          have HT := Lib.hid (show getR xs = ((words4 xs).take k).map unR by rw [HGR.out, HST.out HALL.out (by simp [hy])])
          clear hy HST HA2 HU2 HALL p0 p1 p2 p3 f0 f1 f2 f3
          rw [HT.out] at HOK
          have HLN := Lib.hid (show (nodeW (getN xs) (((words4 xs).take k).map unR)).length ≤ maxLen by rw [nodeW_len]; unfold maxLen; split <;> simp)
          have KP := Lib.hid (fun (W : World) (h : RdR W B (((words4 xs).take k).map unR)) => show Calls Try.prog 51 #[.agg #[.int .i64 m0.toInt, .int .i64 m1.toInt, .int .i64 x1.toInt, .slice B (((words4 xs).take k).map unR).length d]] W (fun e w' => (∃ B d, e = .returned (.slice B (nodeW (getN xs) (((words4 xs).take k).map unR)).length d) ∧ OwnU w' W.heap.size B (nodeW (getN xs) (((words4 xs).take k).map unR)) d) ∧ Below W.heap.size W w') by
            have h9 := nPut_any (getN xs) B (((words4 xs).take k).map unR) d W h
            rw [HN.out] at h9 ⊢
            exact h9)
          generalize nodeW (getN xs) (((words4 xs).take k).map unR) = nw at *
          rw [HRL.out] at KP
          obtain ⟨l0, l1, l2, l3⟩ := cells4 HQ.out
          go_wp2_with fail
          refine (KP.out _ HO.out.rd).mono ?_
          rintro e wp ⟨⟨BP, dP, rfl, hown⟩, hbp⟩
          have HQ := Lib.hid (heap_below HQ.out hbp)
          have HO := Lib.hid (HO.out.below hbp)
          have HB := Lib.hid (HB.out.trans (hbp.mono HB.out.size))
          have HRP := Lib.hid hown.rd
          clear hown hbp l0 l1 l2 l3
          have HRX := Lib.hid (HRW.out.below HB.out)
          have KE := Lib.hid (show Calls Try.prog 75 #[.slice BP nw.length dP, .slice (some ⟨b, off, none⟩) 8 c] wp (fun e w' => e = .returned (.bool (nw == xs)) ∧ Drawn wp w') by
            have h9 := Equal_any nw xs BP (some ⟨b, off, none⟩) dP c wp HRP.out HRX.out HLN.out (by rw [HLL.out]; unfold maxLen; simp)
            rw [HLL.out] at h9
            exact h9)
          go_wp2_with fail
          refine KE.out.mono ?_
          rintro e we ⟨rfl, hd⟩
          have hbd := hd.below wp.heap.size
          have HQ := Lib.hid (heap_below HQ.out hbd)
          have HO := Lib.hid (HO.out.below hbd)
          have HB := Lib.hid (HB.out.trans (hbd.mono HB.out.size))
          clear hd hbd HRX HRP KE
          rw [← HOK.out]
          have hh2 := heap_below (heap_alloc_new w (.cells #[.int .i64 0, .int .i64 0, .int .i64 0, .slice none 0 0] 84)) HB.out
          obtain ⟨y0, y1, y2, y3⟩ := cells4 hh2
          obtain ⟨z0, z1, z2, z3⟩ := frozen4 hh2
          have HWP := Lib.hid (HW.out.trans (HB.out.mono HW.out.size))
          cases hq : nodeOk xs with
          | false =>
            obtain ⟨hz1, hz2⟩ := HZ.out hq
            have HZ1 := Lib.hid hz1
            have HZ2 := Lib.hid hz2
            have HNO := Lib.hid hq
            clear hz1 hz2 hq
            have hh3 := heap_set4 hh2 (.int .i64 0) (.int .i64 0) (.int .i64 0) (.slice none 0 0)
            have HWF := Lib.hid (below_set4 HWP.out (Nat.le_refl _) (.int .i64 0) (.int .i64 0) (.int .i64 0) (.slice none 0 0))
            obtain ⟨r0, r1, r2, r3⟩ := cells4 hh3
            clear hh2 hh3
            go_wp2
            refine bodyPost_ret (v := .tuple #[.agg #[.int .i64 0, .int .i64 0, .int .i64 0, .slice none 0 0], .bool false]) ?_ rfl ⟨⟨none, 0, by rw [HZ1.out, HNO.out], by rw [HZ2.out]; exact ⟨RdR.nil_, by simp, by unfold maxLen; simp⟩⟩, HWF.out⟩
            unfold results
            rw [show Try.f52.results = #[.cell 2 84, .tmp 3] from rfl]
            go_simp
            try rfl
          | true =>
            have HV := Lib.hid (show tellN xs = getN xs ∧ tellR xs = (((words4 xs).take k).map unR) by unfold tellN tellR; rw [if_pos hq, if_pos hq, HT.out]; exact ⟨rfl, rfl⟩)
            have HNO := Lib.hid hq
            have HCP := Lib.hid HO.out.cap
            clear hq
            have hh3 := heap_set4 hh2 (.int .i64 m0.toInt) (.int .i64 m1.toInt) (.int .i64 x1.toInt) (.slice B (((words4 xs).take k).map unR).length d)
            have HWF := Lib.hid (below_set4 HWP.out (Nat.le_refl _) (.int .i64 m0.toInt) (.int .i64 m1.toInt) (.int .i64 x1.toInt) (.slice B (((words4 xs).take k).map unR).length d))
            have HRF := Lib.hid (show RdR ((((we.setCell ⟨w.heap.size, 0, none⟩ (.int .i64 m0.toInt)).setCell ⟨w.heap.size, 1, none⟩ (.int .i64 m1.toInt)).setCell ⟨w.heap.size, 2, none⟩ (.int .i64 x1.toInt)).setCell ⟨w.heap.size, 3, none⟩ (.slice B (((words4 xs).take k).map unR).length d)) B (((words4 xs).take k).map unR) from
              ((((HO.out.kept (grownBy_setAt' _ w.heap.size 0 _) HBN.out).kept (grownBy_setAt' _ w.heap.size 1 _) HBN.out).kept (grownBy_setAt' _ w.heap.size 2 _) HBN.out).kept (grownBy_setAt' _ w.heap.size 3 _) HBN.out).rd)
            rw [HRL.out] at hh3 HWF HRF
            obtain ⟨r0, r1, r2, r3⟩ := cells4 hh3
            obtain ⟨l0, l1, l2, l3⟩ := cells4 HQ.out
            clear hh2 hh3
            go_wp2
            refine bodyPost_ret (v := .tuple #[.agg #[(.int .i64 m0.toInt), (.int .i64 m1.toInt), (.int .i64 x1.toInt), .slice B k d], .bool true]) ?_ rfl ⟨⟨B, d, by rw [HV.out.1, HV.out.2, HN.out, HNO.out]; unfold nodeV; rw [HRL.out], by rw [HV.out.2]; exact ⟨HRF.out, HCP.out⟩⟩, HWF.out⟩
            unfold results
            rw [show Try.f52.results = #[.cell 2 84, .tmp 3] from rfl]
            go_simp
            try rfl
        · have hy1 : (y == 0#64) = false := by rw [beq_eq_false_iff_ne]; exact hy
          have hy2 : (y == BitVec.ofInt 64 0) = false := hy1
          have HALL2 := Lib.hid (show ((words4 xs).take (k + 1)).all (fun v => v != 0#64) = true by rw [HA2.out, HALL.out]; simp [hy])
          obtain ⟨y0, hy0⟩ : ∃ m, y &&& 4294967295#64 = m := ⟨_, rfl⟩
          obtain ⟨y1, hy3⟩ : ∃ m, y >>> 32 = m := ⟨_, rfl⟩
          have HUR := Lib.hid (show unR y = (y0.toInt, y1.toInt) by unfold unR; rw [hy0, hy3])
          clear hy HST HA2
          go_wp2_with (first | go_skip | (at_builtin; refine stop_ ?_))
          have hbx : Below wr.heap.size wr (wr.alloc (.cells #[.int .i64 y0.toInt, .int .i64 y1.toInt] 81)) := (Below.refl _ _).alloc (Nat.le_refl _) _
          have hox := HO.out.below hbx
          have hQ1 := heap_below HQ.out hbx
          have hrd := RdR.new1 wr y0.toInt y1.toInt 81
          have hqlt := heap_lt HQ.out
          refine appR 82 81 Try.underlying82 infoRn (.tmp 49) (.tmp 57) rfl rfl (q + 1) B (((words4 xs).take k).map unR) _ d rfl HRL.out.symm hox (some ⟨wr.heap.size, 0, none⟩) [(y0.toInt, y1.toInt)] 1 1 rfl rfl hrd (by rw [HRL.out]; simp; omega) (by have := hbx.size; omega) ?_
          intro B2 us d2 w3 hus hown2 hg2 _
          have hBq : some q ≠ blk B := fun e => by have := (hox.lt q e.symm).1; omega
          have hQ3 : w3.heap[q]? = some _ := (hg2.block q (by have := hbx.size; omega) hBq).trans hQ1
          have HU := Lib.hid (show us = ((words4 xs).take (k + 1)).map unR by rw [hus, HU2.out, HUR.out])
          have HUL := Lib.hid (show us.length = k + 1 by rw [hus, List.length_append, HRL.out]; rfl)
          have hb3 := (HB.out.trans (hbx.mono HB.out.size)).grown hg2 (by have := HB.out.size; have := hbx.size; omega) (fun j hj => by have := (hox.lt j hj).1; have := HQG.out; simp; omega)
          rw [HUL.out]
          have hQ4 := heap_set1 3 hQ3 (.slice B2 (k + 1) d2)
          simp only [List.setIfInBounds_toArray, List.set_cons_zero, List.set_cons_succ] at hQ4
          have HQ4 := Lib.hid hQ4
          have HB4 := Lib.hid (hb3.setCell (p := ⟨q, 3, none⟩) (by have := HQG.out; simp; omega) (.slice B2 (k + 1) d2))
          have HO4 := Lib.hid ((show OwnR 81 w3 (q + 1) B2 us d2 from hown2).kept (grownBy_setAt' w3 q 3 (.slice B2 (k + 1) d2)) (by
            cases hB : blk B2 with
            | none => exact .inl rfl
            | some j => exact .inr (fun e => by cases e; have h1 := (hown2.lt _ hB).1; omega)))
          obtain ⟨o0, o1, o2, o3⟩ := cells4 hQ3
          obtain ⟨i0, i1, i2, i3⟩ := frozen4 hQ3
          clear hus hg2 hown2 hbx hox hrd hQ1 hQ3 hQ4 hb3 hBq p0 p1 p2 p3 f0 f1 f2 f3 hk1 hqlt
          unfold Stop
          go_wp2
          go_roundw
          case rel => exact ⟨k + 1, B2, d2, by omega, by go_num, Lib.hid HALL2.out, HQ4.out, by rw [← HU.out]; exact HO4.out, HB4.out⟩
          case measure => simp [intOf]; omega
      · obtain rfl : k = 4 := by omega
        have HT := Lib.hid (show getR xs = ((words4 xs).take 4).map unR by
          have h9 := HALL.out
          rw [List.take_of_length_le (by rw [HL4.out]; omega)] at h9 ⊢
          rw [HGR.out, takeWhile_all _ _ h9])
        clear HALL
        rw [HT.out] at HOK
        have HLN := Lib.hid (show (nodeW (getN xs) (((words4 xs).take 4).map unR)).length ≤ maxLen by rw [nodeW_len]; unfold maxLen; split <;> simp)
        have KP := Lib.hid (fun (W : World) (h : RdR W B (((words4 xs).take 4).map unR)) => show Calls Try.prog 51 #[.agg #[.int .i64 m0.toInt, .int .i64 m1.toInt, .int .i64 x1.toInt, .slice B (((words4 xs).take 4).map unR).length d]] W (fun e w' => (∃ B d, e = .returned (.slice B (nodeW (getN xs) (((words4 xs).take 4).map unR)).length d) ∧ OwnU w' W.heap.size B (nodeW (getN xs) (((words4 xs).take 4).map unR)) d) ∧ Below W.heap.size W w') by
          have h9 := nPut_any (getN xs) B (((words4 xs).take 4).map unR) d W h
          rw [HN.out] at h9 ⊢
          exact h9)
        generalize nodeW (getN xs) (((words4 xs).take 4).map unR) = nw at *
        rw [HRL.out] at KP
        obtain ⟨l0, l1, l2, l3⟩ := cells4 HQ.out
        go_wp2_with fail
        refine (KP.out _ HO.out.rd).mono ?_
        rintro e wp ⟨⟨BP, dP, rfl, hown⟩, hbp⟩
        have HQ := Lib.hid (heap_below HQ.out hbp)
        have HO := Lib.hid (HO.out.below hbp)
        have HB := Lib.hid (HB.out.trans (hbp.mono HB.out.size))
        have HRP := Lib.hid hown.rd
        clear hown hbp l0 l1 l2 l3
        have HRX := Lib.hid (HRW.out.below HB.out)
        have KE := Lib.hid (show Calls Try.prog 75 #[.slice BP nw.length dP, .slice (some ⟨b, off, none⟩) 8 c] wp (fun e w' => e = .returned (.bool (nw == xs)) ∧ Drawn wp w') by
          have h9 := Equal_any nw xs BP (some ⟨b, off, none⟩) dP c wp HRP.out HRX.out HLN.out (by rw [HLL.out]; unfold maxLen; simp)
          rw [HLL.out] at h9
          exact h9)
        go_wp2_with fail
        refine KE.out.mono ?_
        rintro e we ⟨rfl, hd⟩
        have hbd := hd.below wp.heap.size
        have HQ := Lib.hid (heap_below HQ.out hbd)
        have HO := Lib.hid (HO.out.below hbd)
        have HB := Lib.hid (HB.out.trans (hbd.mono HB.out.size))
        clear hd hbd HRX HRP KE
        rw [← HOK.out]
        have hh2 := heap_below (heap_alloc_new w (.cells #[.int .i64 0, .int .i64 0, .int .i64 0, .slice none 0 0] 84)) HB.out
        obtain ⟨y0, y1, y2, y3⟩ := cells4 hh2
        obtain ⟨z0, z1, z2, z3⟩ := frozen4 hh2
        have HWP := Lib.hid (HW.out.trans (HB.out.mono HW.out.size))
        cases hq : nodeOk xs with
        | false =>
          obtain ⟨hz1, hz2⟩ := HZ.out hq
          have HZ1 := Lib.hid hz1
          have HZ2 := Lib.hid hz2
          have HNO := Lib.hid hq
          clear hz1 hz2 hq
          have hh3 := heap_set4 hh2 (.int .i64 0) (.int .i64 0) (.int .i64 0) (.slice none 0 0)
          have HWF := Lib.hid (below_set4 HWP.out (Nat.le_refl _) (.int .i64 0) (.int .i64 0) (.int .i64 0) (.slice none 0 0))
          obtain ⟨r0, r1, r2, r3⟩ := cells4 hh3
          clear hh2 hh3
          go_wp2
          refine bodyPost_ret (v := .tuple #[.agg #[.int .i64 0, .int .i64 0, .int .i64 0, .slice none 0 0], .bool false]) ?_ rfl ⟨⟨none, 0, by rw [HZ1.out, HNO.out], by rw [HZ2.out]; exact ⟨RdR.nil_, by simp, by unfold maxLen; simp⟩⟩, HWF.out⟩
          unfold results
          rw [show Try.f52.results = #[.cell 2 84, .tmp 3] from rfl]
          go_simp
          try rfl
        | true =>
          have HV := Lib.hid (show tellN xs = getN xs ∧ tellR xs = (((words4 xs).take 4).map unR) by unfold tellN tellR; rw [if_pos hq, if_pos hq, HT.out]; exact ⟨rfl, rfl⟩)
          have HNO := Lib.hid hq
          have HCP := Lib.hid HO.out.cap
          clear hq
          have hh3 := heap_set4 hh2 (.int .i64 m0.toInt) (.int .i64 m1.toInt) (.int .i64 x1.toInt) (.slice B (((words4 xs).take 4).map unR).length d)
          have HWF := Lib.hid (below_set4 HWP.out (Nat.le_refl _) (.int .i64 m0.toInt) (.int .i64 m1.toInt) (.int .i64 x1.toInt) (.slice B (((words4 xs).take 4).map unR).length d))
          have HRF := Lib.hid (show RdR ((((we.setCell ⟨w.heap.size, 0, none⟩ (.int .i64 m0.toInt)).setCell ⟨w.heap.size, 1, none⟩ (.int .i64 m1.toInt)).setCell ⟨w.heap.size, 2, none⟩ (.int .i64 x1.toInt)).setCell ⟨w.heap.size, 3, none⟩ (.slice B (((words4 xs).take 4).map unR).length d)) B (((words4 xs).take 4).map unR) from
            ((((HO.out.kept (grownBy_setAt' _ w.heap.size 0 _) HBN.out).kept (grownBy_setAt' _ w.heap.size 1 _) HBN.out).kept (grownBy_setAt' _ w.heap.size 2 _) HBN.out).kept (grownBy_setAt' _ w.heap.size 3 _) HBN.out).rd)
          rw [HRL.out] at hh3 HWF HRF
          obtain ⟨r0, r1, r2, r3⟩ := cells4 hh3
          obtain ⟨l0, l1, l2, l3⟩ := cells4 HQ.out
          clear hh2 hh3
          go_wp2
          refine bodyPost_ret (v := .tuple #[.agg #[(.int .i64 m0.toInt), (.int .i64 m1.toInt), (.int .i64 x1.toInt), .slice B 4 d], .bool true]) ?_ rfl ⟨⟨B, d, by rw [HV.out.1, HV.out.2, HN.out, HNO.out]; unfold nodeV; rw [HRL.out], by rw [HV.out.2]; exact ⟨HRF.out, HCP.out⟩⟩, HWF.out⟩
          unfold results
          rw [show Try.f52.results = #[.cell 2 84, .tmp 3] from rfl]
          go_simp
          try rfl
theorem nGet_any (xs : List (BitVec 64)) (A : Option Addr) (c : Nat) (w : World) (hr : RdU w A xs) (hc : xs.length ≤ c) (hm : c ≤ maxLen) :
    Calls Try.prog 52 #[.slice A xs.length c] w fun e w' => (∃ B d, e = .returned (.tuple #[nodeV (tellN xs) B (tellR xs) d, .bool (nodeOk xs)]) ∧ RdR w' B (tellR xs)) ∧ Below w.heap.size w w' := by
  refine (nGet_cap xs A c w hr hc hm).mono ?_
  rintro e w' ⟨⟨B, d, he, hr2, _, _⟩, hb⟩
  exact ⟨⟨B, d, he, hr2⟩, hb⟩
end Go.Proofs.Ytgkojedgamglgaa
