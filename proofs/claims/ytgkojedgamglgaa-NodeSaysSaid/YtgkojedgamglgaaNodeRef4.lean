/- The walk of the reference's GetNode. Condition: the words can be read. -/
import Derived.Test.YtgkojedgamglgaaNodeRef3
import Derived.Test.YtgkojedgamglgaaRefSame
import Derived.BigGuard
namespace Go.Proofs.Ytgkojedgamglgaa
open Go.RowKit
set_option linter.unusedVariables false
set_option linter.unusedSimpArgs false
/-- The runs among the first k words. -/
def rgR (xs : List (BitVec 64)) (k : Nat) : List Rn := (((words4 xs).take k).filter (fun v => v != 0#64)).map unR
theorem rgR_len (xs : List (BitVec 64)) (k : Nat) : (rgR xs k).length ≤ k := by
  unfold rgR
  rw [List.length_map]
  exact Nat.le_trans (List.length_filter_le _ _) (by rw [List.length_take]; omega)
theorem rgR_next (xs : List (BitVec 64)) (k : Nat) (h : k < (words4 xs).length) : rgR xs (k + 1) = if (words4 xs)[k] = 0#64 then rgR xs k else rgR xs k ++ [unR (words4 xs)[k]] := by
  unfold rgR
  rw [List.take_succ_eq_append_getElem h, List.filter_append, List.map_append]
  by_cases e : (words4 xs)[k] = 0#64
  · rw [if_pos e]; simp [e]
  · rw [if_neg e]; simp [e]
theorem rgR_all (xs : List (BitVec 64)) (h : (words4 xs).length = 4) : rgR xs 4 = rgetR xs := by
  unfold rgR rgetR
  rw [List.take_of_length_le (by omega)]
set_option maxRecDepth 100000 in
set_option maxHeartbeats 8000000 in
theorem rnGet_any (xs : List (BitVec 64)) (A : Option Addr) (c : Nat) (w : World) (hr : RdU w A xs) (hc : xs.length ≤ c) (hm : c ≤ maxLen) :
    Calls Try.prog 56 #[.slice A xs.length c] w fun e w' => (∃ B d, e = .returned (.tuple #[nodeV (tellN xs) B (tellR xs) d, .bool (nodeOk xs)]) ∧ RdR w' B (tellR xs)) ∧ Below w.heap.size w w' := by
  have hm' := hm
  unfold maxLen at hm'
  have HR := Lib.hid hr
  clear hr
  have HW := Lib.hid ((Below.refl w.heap.size w).alloc (Nat.le_refl _) (.cells #[.int .i64 0, .int .i64 0, .int .i64 0, .slice none 0 0] 93))
  have HZ := Lib.hid (fun (h : nodeOk xs = false) => show nodeV (tellN xs) none (tellR xs) 0 = .agg #[.int .i64 0, .int .i64 0, .int .i64 0, .slice none 0 0] ∧ tellR xs = [] by unfold tellN tellR; rw [h]; exact ⟨rfl, rfl⟩)
  by_cases hl : xs.length = 8
  rotate_left
  · skip
    have HNO := Lib.hid (show nodeOk xs = false by unfold nodeOk; rw [decide_eq_false hl]; rfl)
    obtain ⟨hz1, hz2⟩ := HZ.out HNO.out
    have HZ1 := Lib.hid hz1
    have HZ2 := Lib.hid hz2
    clear hz1 hz2 HZ
    have hne : ((xs.length : Int) != 8) = true := by rw [bne_iff_ne]; omega
    have hne2 : ¬ ((xs.length : Int) = 8) := by omega
    clear hl
    go_enter Try.func56, Try.ntmps56
    go_wp2
    refine bodyPost_ret (v := .tuple #[.agg #[.int .i64 0, .int .i64 0, .int .i64 0, .slice none 0 0], .bool false]) ?_ rfl ⟨⟨none, 0, by rw [HZ1.out, HNO.out], by rw [HZ2.out]; exact RdR.nil_⟩, HW.out⟩
    unfold results
    rw [show Try.f56.results = #[.cell 2 93, .tmp 3] from rfl]
    go_simp
    try rfl
  obtain ⟨b, off, rfl, hcell⟩ := (HR.out.below HW.out).at_ (show 0 < xs.length by omega)
  have HC := Lib.hid hcell
  clear hcell
  obtain ⟨x0, x1, x2, x3, x4, x5, x6, x7, hxs⟩ := node_eight hl
  have HXS := Lib.hid hxs
  have HLL := Lib.hid hl
  have g0 : xs.getD 0 0 = x0 := by rw [hxs]; rfl
  have g1 : xs.getD 1 0 = x1 := by rw [hxs]; rfl
  have hc0 := HC.out 0 (by omega)
  have hc1 := HC.out 1 (by omega)
  simp only [hxs, List.getElem_cons_succ, List.getElem_cons_zero, Nat.add_zero] at hc0 hc1
  have hbl : b < (w.alloc (.cells #[.int .i64 0, .int .i64 0, .int .i64 0, .slice none 0 0] 93)).heap.size := cell_lt hc0
  have HRW := Lib.hid (HR.out.below HW.out)
  have HSAME := Lib.hid (rget_same hl)
  have HTELL := Lib.hid (fun h => rget_tell hl h)
  rw [hl]
  have h8c : 8 ≤ c := by omega
  clear hxs
  by_cases hsz : x1.toNat ≤ 1099511627776
  rotate_left
  · skip
    have HNO := Lib.hid (show nodeOk xs = false by unfold nodeOk; rw [g1, decide_eq_false hsz]; simp)
    obtain ⟨hz1, hz2⟩ := HZ.out HNO.out
    have HZ1 := Lib.hid hz1
    have HZ2 := Lib.hid hz2
    clear hz1 hz2 HZ
    have k3 : 1099511627776#64 < x1 := BitVec.lt_def.2 (by simp; omega)
    have k4 : BitVec.ofInt 64 1099511627776 < x1 := k3
    clear hl hsz HSAME HTELL
    go_enter Try.func56, Try.ntmps56
    go_wp2
    refine bodyPost_ret (v := .tuple #[.agg #[.int .i64 0, .int .i64 0, .int .i64 0, .slice none 0 0], .bool false]) ?_ rfl ⟨⟨none, 0, by rw [HZ1.out, HNO.out], by rw [HZ2.out]; exact RdR.nil_⟩, HW.out⟩
    unfold results
    rw [show Try.f56.results = #[.cell 2 93, .tmp 3] from rfl]
    go_simp
    try rfl
  have k3 : ¬ 1099511627776#64 < x1 := fun h => by have := BitVec.lt_def.1 h; simp at this; omega
  have k4 : ¬ BitVec.ofInt 64 1099511627776 < x1 := k3
  obtain ⟨m0, hm0⟩ : ∃ m, x0 &&& 255#64 = m := ⟨_, rfl⟩
  obtain ⟨m1, hm1⟩ : ∃ m, x0 >>> 8 &&& 16777215#64 = m := ⟨_, rfl⟩
  have HN := Lib.hid (show rgetN xs = ⟨m0.toInt, m1.toInt, x1.toInt⟩ by unfold rgetN; rw [g0, g1, hm0, hm1])
  have HRS := Lib.hid (show RdU (w.alloc (.cells #[.int .i64 0, .int .i64 0, .int .i64 0, .slice none 0 0] 93)) (some ⟨b, off + 2, none⟩) (words4 xs) from (HRW.out.drop 2).take 4)
  have HL4 := Lib.hid (words4_len hl)
  have HALL := Lib.hid (rgR_all xs HL4.out)
  clear hsz hl g0 g1 HC
  go_enter Try.func56, Try.ntmps56
  go_wp2_with fail
  apply wp_region_last 66 (Eqs _ :: Eqs _ :: Eqs _ :: Eqs _ :: Eqs _ :: Eqs _ :: Eqs _ :: Eqs _ :: Eqs _ :: Eqs _ :: Eqs _ :: Eqs _ :: Eqs _ :: Eqs _ :: Eqs _ :: Eqs _ :: (BoxF (w.heap.size + 1) #[.int .i64 0, .int .i64 0, .int .i64 0, .slice none 0 0] 93) :: []) rfl (by kernel_rfl) (by rfl) (stab_cons (stab_eq _) (stab_cons (stab_eq _) (stab_cons (stab_eq _) (stab_cons (stab_eq _) (stab_cons (stab_eq _) (stab_cons (stab_eq _) (stab_cons (stab_eq _) (stab_cons (stab_eq _) (stab_cons (stab_eq _) (stab_cons (stab_eq _) (stab_cons (stab_eq _) (stab_cons (stab_eq _) (stab_cons (stab_eq _) (stab_cons (stab_eq _) (stab_cons (stab_eq _) (stab_cons (stab_eq _) (stab_cons stab_box stab_nil))))))))))))))))) (by kernel_rfl) (by kernel_rfl) (by kernel_rfl)
  case hstep =>
    simp only [List.dropLast_cons_cons, List.dropLast_singleton]
    refine StepsOK.cons ?_ ?_
    · -- 0: Go.Op.move (Go.Operand.tmp 0)
      intro a w1 hR1 hF hU hsz
      have e0 : a.eval (.tmp 0) = _ := hU 0 (by kernel_rfl)
      rw [if_pos (by rfl)]
      intro K hK
      clear hF hU hsz
      obtain ⟨q1, q2, q3⟩ := eval_rest a
      generalize hρ : a.eval = ρ
      rw [hρ] at q1 q2 q3 e0
      clear hρ
      have u1 := OpUp_value Try.prog K
      have u2 := OpUp_enter Try.prog K
      go_simp
      exact hK _ _ (Stood.refl _) rfl
    refine StepsOK.cons ?_ ?_
    · -- 1: Go.Op.indexAddr 28 (Go.Operand.tmp 16) (Go.Operand.const (Go.Value.int Go.IntKin
      intro a w1 hR1 hF hU hsz
      have e16 : a.eval (.tmp 16) = _ := hF 0 _ _ rfl rfl (by kernel_rfl)
      rw [if_pos (by rfl)]
      intro K hK
      clear hF hU hsz
      obtain ⟨q1, q2, q3⟩ := eval_rest a
      generalize hρ : a.eval = ρ
      rw [hρ] at q1 q2 q3 e16
      clear hρ
      have u1 := OpUp_value Try.prog K
      have u2 := OpUp_enter Try.prog K
      go_simp
      exact hK _ _ (Stood.refl _) rfl
    refine StepsOK.cons ?_ ?_
    · -- 2: Go.Op.load 22 (Go.Operand.tmp 17)
      intro a w1 hR1 hF hU hsz
      have e17 : a.eval (.tmp 17) = _ := hF 1 _ _ rfl rfl (by kernel_rfl)
      rw [if_pos (by rfl)]
      intro K hK
      clear hF hU hsz
      have hld := ((Stood.cur hR1).cell (p := ⟨b, off, none⟩) hbl).trans hc0
      obtain ⟨q1, q2, q3⟩ := eval_rest a
      generalize hρ : a.eval = ρ
      rw [hρ] at q1 q2 q3 e17
      clear hρ
      have u1 := OpUp_value Try.prog K
      have u2 := OpUp_enter Try.prog K
      go_simp
      exact hK _ _ (Stood.refl _) rfl
    refine StepsOK.cons ?_ ?_
    · -- 3: Go.Op.binOp Go.BinOp.and 22 (Go.Operand.tmp 18) (Go.Operand.const (Go.Value.int 
      intro a w1 hR1 hF hU hsz
      have e18 : a.eval (.tmp 18) = _ := hF 2 _ _ rfl rfl (by kernel_rfl)
      rw [if_pos (by rfl)]
      intro K hK
      clear hF hU hsz
      obtain ⟨q1, q2, q3⟩ := eval_rest a
      generalize hρ : a.eval = ρ
      rw [hρ] at q1 q2 q3 e18
      clear hρ
      have u1 := OpUp_value Try.prog K
      have u2 := OpUp_enter Try.prog K
      go_simp
      exact hK _ _ (Stood.refl _) rfl
    refine StepsOK.cons ?_ ?_
    · -- 4: Go.Op.convert 22 3 (Go.Operand.tmp 19)
      intro a w1 hR1 hF hU hsz
      have e19 : a.eval (.tmp 19) = _ := hF 3 _ _ rfl rfl (by kernel_rfl)
      rw [if_pos (by rfl)]
      intro K hK
      clear hF hU hsz
      obtain ⟨q1, q2, q3⟩ := eval_rest a
      generalize hρ : a.eval = ρ
      rw [hρ] at q1 q2 q3 e19
      clear hρ
      have u1 := OpUp_value Try.prog K
      have u2 := OpUp_enter Try.prog K
      go_simp
      exact hK _ _ (Stood.refl _) rfl
    refine StepsOK.cons ?_ ?_
    · -- 5: Go.Op.move (Go.Operand.tmp 0)
      intro a w1 hR1 hF hU hsz
      have e0 : a.eval (.tmp 0) = _ := hU 0 (by kernel_rfl)
      rw [if_pos (by rfl)]
      intro K hK
      clear hF hU hsz
      obtain ⟨q1, q2, q3⟩ := eval_rest a
      generalize hρ : a.eval = ρ
      rw [hρ] at q1 q2 q3 e0
      clear hρ
      have u1 := OpUp_value Try.prog K
      have u2 := OpUp_enter Try.prog K
      go_simp
      exact hK _ _ (Stood.refl _) rfl
    refine StepsOK.cons ?_ ?_
    · -- 6: Go.Op.indexAddr 28 (Go.Operand.tmp 21) (Go.Operand.const (Go.Value.int Go.IntKin
      intro a w1 hR1 hF hU hsz
      have e21 : a.eval (.tmp 21) = _ := hF 5 _ _ rfl rfl (by kernel_rfl)
      rw [if_pos (by rfl)]
      intro K hK
      clear hF hU hsz
      obtain ⟨q1, q2, q3⟩ := eval_rest a
      generalize hρ : a.eval = ρ
      rw [hρ] at q1 q2 q3 e21
      clear hρ
      have u1 := OpUp_value Try.prog K
      have u2 := OpUp_enter Try.prog K
      go_simp
      exact hK _ _ (Stood.refl _) rfl
    refine StepsOK.cons ?_ ?_
    · -- 7: Go.Op.load 22 (Go.Operand.tmp 22)
      intro a w1 hR1 hF hU hsz
      have e22 : a.eval (.tmp 22) = _ := hF 6 _ _ rfl rfl (by kernel_rfl)
      rw [if_pos (by rfl)]
      intro K hK
      clear hF hU hsz
      have hld := ((Stood.cur hR1).cell (p := ⟨b, off, none⟩) hbl).trans hc0
      obtain ⟨q1, q2, q3⟩ := eval_rest a
      generalize hρ : a.eval = ρ
      rw [hρ] at q1 q2 q3 e22
      clear hρ
      have u1 := OpUp_value Try.prog K
      have u2 := OpUp_enter Try.prog K
      go_simp
      exact hK _ _ (Stood.refl _) rfl
    refine StepsOK.cons ?_ ?_
    · -- 8: Go.Op.binOp Go.BinOp.shr 22 (Go.Operand.tmp 23) (Go.Operand.const (Go.Value.int 
      intro a w1 hR1 hF hU hsz
      have e23 : a.eval (.tmp 23) = _ := hF 7 _ _ rfl rfl (by kernel_rfl)
      rw [if_pos (by rfl)]
      intro K hK
      clear hF hU hsz
      obtain ⟨q1, q2, q3⟩ := eval_rest a
      generalize hρ : a.eval = ρ
      rw [hρ] at q1 q2 q3 e23
      clear hρ
      have u1 := OpUp_value Try.prog K
      have u2 := OpUp_enter Try.prog K
      go_simp
      exact hK _ _ (Stood.refl _) rfl
    refine StepsOK.cons ?_ ?_
    · -- 9: Go.Op.binOp Go.BinOp.and 22 (Go.Operand.tmp 24) (Go.Operand.const (Go.Value.int 
      intro a w1 hR1 hF hU hsz
      have e24 : a.eval (.tmp 24) = _ := hF 8 _ _ rfl rfl (by kernel_rfl)
      rw [if_pos (by rfl)]
      intro K hK
      clear hF hU hsz
      obtain ⟨q1, q2, q3⟩ := eval_rest a
      generalize hρ : a.eval = ρ
      rw [hρ] at q1 q2 q3 e24
      clear hρ
      have u1 := OpUp_value Try.prog K
      have u2 := OpUp_enter Try.prog K
      go_simp
      exact hK _ _ (Stood.refl _) rfl
    refine StepsOK.cons ?_ ?_
    · -- 10: Go.Op.convert 22 3 (Go.Operand.tmp 25)
      intro a w1 hR1 hF hU hsz
      have e25 : a.eval (.tmp 25) = _ := hF 9 _ _ rfl rfl (by kernel_rfl)
      rw [if_pos (by rfl)]
      intro K hK
      clear hF hU hsz
      obtain ⟨q1, q2, q3⟩ := eval_rest a
      generalize hρ : a.eval = ρ
      rw [hρ] at q1 q2 q3 e25
      clear hρ
      have u1 := OpUp_value Try.prog K
      have u2 := OpUp_enter Try.prog K
      go_simp
      exact hK _ _ (Stood.refl _) rfl
    refine StepsOK.cons ?_ ?_
    · -- 11: Go.Op.move (Go.Operand.tmp 0)
      intro a w1 hR1 hF hU hsz
      have e0 : a.eval (.tmp 0) = _ := hU 0 (by kernel_rfl)
      rw [if_pos (by rfl)]
      intro K hK
      clear hF hU hsz
      obtain ⟨q1, q2, q3⟩ := eval_rest a
      generalize hρ : a.eval = ρ
      rw [hρ] at q1 q2 q3 e0
      clear hρ
      have u1 := OpUp_value Try.prog K
      have u2 := OpUp_enter Try.prog K
      go_simp
      exact hK _ _ (Stood.refl _) rfl
    refine StepsOK.cons ?_ ?_
    · -- 12: Go.Op.indexAddr 28 (Go.Operand.tmp 27) (Go.Operand.const (Go.Value.int Go.IntKin
      intro a w1 hR1 hF hU hsz
      have e27 : a.eval (.tmp 27) = _ := hF 11 _ _ rfl rfl (by kernel_rfl)
      rw [if_pos (by rfl)]
      intro K hK
      clear hF hU hsz
      obtain ⟨q1, q2, q3⟩ := eval_rest a
      generalize hρ : a.eval = ρ
      rw [hρ] at q1 q2 q3 e27
      clear hρ
      have u1 := OpUp_value Try.prog K
      have u2 := OpUp_enter Try.prog K
      go_simp
      exact hK _ _ (Stood.refl _) rfl
    refine StepsOK.cons ?_ ?_
    · -- 13: Go.Op.load 22 (Go.Operand.tmp 28)
      intro a w1 hR1 hF hU hsz
      have e28 : a.eval (.tmp 28) = _ := hF 12 _ _ rfl rfl (by kernel_rfl)
      rw [if_pos (by rfl)]
      intro K hK
      clear hF hU hsz
      have hld := ((Stood.cur hR1).cell (p := ⟨b, off + 1, none⟩) hbl).trans hc1
      obtain ⟨q1, q2, q3⟩ := eval_rest a
      generalize hρ : a.eval = ρ
      rw [hρ] at q1 q2 q3 e28
      clear hρ
      have u1 := OpUp_value Try.prog K
      have u2 := OpUp_enter Try.prog K
      go_simp
      exact hK _ _ (Stood.refl _) rfl
    refine StepsOK.cons ?_ ?_
    · -- 14: Go.Op.convert 22 3 (Go.Operand.tmp 29)
      intro a w1 hR1 hF hU hsz
      have e29 : a.eval (.tmp 29) = _ := hF 13 _ _ rfl rfl (by kernel_rfl)
      rw [if_pos (by rfl)]
      intro K hK
      clear hF hU hsz
      obtain ⟨q1, q2, q3⟩ := eval_rest a
      generalize hρ : a.eval = ρ
      rw [hρ] at q1 q2 q3 e29
      clear hρ
      have u1 := OpUp_value Try.prog K
      have u2 := OpUp_enter Try.prog K
      go_simp
      exact hK _ _ (Stood.refl _) rfl
    refine StepsOK.cons ?_ ?_
    · -- 15: Go.Op.build 93 #[(0, Go.Operand.tmp 20), (1, Go.Operand.tmp 26), (2, Go.Operand.
      intro a w1 hR1 hF hU hsz
      have e20 : a.eval (.tmp 20) = _ := hF 4 _ _ rfl rfl (by kernel_rfl)
      have e26 : a.eval (.tmp 26) = _ := hF 10 _ _ rfl rfl (by kernel_rfl)
      have e30 : a.eval (.tmp 30) = _ := hF 14 _ _ rfl rfl (by kernel_rfl)
      rw [if_pos (by rfl)]
      intro K hK
      clear hF hU hsz
      obtain ⟨q1, q2, q3⟩ := eval_rest a
      generalize hρ : a.eval = ρ
      rw [hρ] at q1 q2 q3 e20 e26 e30
      clear hρ
      have u1 := OpUp_value Try.prog K
      have u2 := OpUp_enter Try.prog K
      go_simp
      exact hK _ _ (Stood.refl _) rfl
    refine StepsOK.cons ?_ ?_
    · -- 16: Go.Op.alloc 93
      intro a w1 hR1 hF hU hsz
      rw [if_pos (by rfl)]
      intro K hK
      clear hF hU hsz
      obtain ⟨q1, q2, q3⟩ := eval_rest a
      generalize hρ : a.eval = ρ
      rw [hρ] at q1 q2 q3
      clear hρ
      have u1 := OpUp_value Try.prog K
      have u2 := OpUp_enter Try.prog K
      go_simp
      exact hK _ _ ((Below.refl _ _).alloc (Nat.le_refl _) _) ⟨_, rfl, by have h1 := hR1.size; simp at h1 ⊢; omega, heap_alloc_new w1 _⟩
    exact StepsOK.nil
  case hend =>
    intro vs0 w1 hR1 hH0
    obtain ⟨vs1, rfl, hH1⟩ := hH0.eq_
    obtain ⟨vs2, rfl, hH2⟩ := hH1.eq_
    obtain ⟨vs3, rfl, hH3⟩ := hH2.eq_
    obtain ⟨vs4, rfl, hH4⟩ := hH3.eq_
    obtain ⟨vs5, rfl, hH5⟩ := hH4.eq_
    obtain ⟨vs6, rfl, hH6⟩ := hH5.eq_
    obtain ⟨vs7, rfl, hH7⟩ := hH6.eq_
    obtain ⟨vs8, rfl, hH8⟩ := hH7.eq_
    obtain ⟨vs9, rfl, hH9⟩ := hH8.eq_
    obtain ⟨vs10, rfl, hH10⟩ := hH9.eq_
    obtain ⟨vs11, rfl, hH11⟩ := hH10.eq_
    obtain ⟨vs12, rfl, hH12⟩ := hH11.eq_
    obtain ⟨vs13, rfl, hH13⟩ := hH12.eq_
    obtain ⟨vs14, rfl, hH14⟩ := hH13.eq_
    obtain ⟨vs15, rfl, hH15⟩ := hH14.eq_
    obtain ⟨vs16, rfl, hH16⟩ := hH15.eq_
    obtain ⟨v16, vs17, rfl, hv16, hH17⟩ := hH16.cons
    obtain rfl := hH17.nil
    clear hH0 hH1 hH2 hH3 hH4 hH5 hH6 hH7 hH8 hH9 hH10 hH11 hH12 hH13 hH14 hH15 hH16 hH17
    simp only [List.dropLast_cons_cons, List.dropLast_singleton, putAll, Act.put, List.setIfInBounds_toArray, List.set_cons_zero, List.set_cons_succ]
    obtain ⟨q, rfl, hq6, hh6⟩ := hv16
    have HB := Lib.hid ((Stood.cur hR1) : Below _ _ _)
    obtain ⟨s0, s1, s2, s3⟩ := cells4 hh6
    obtain ⟨t0, t1, t2, t3⟩ := frozen4 hh6
    have hh7 := heap_set4 hh6 (.int .i64 m0.toInt) (.int .i64 m1.toInt) (.int .i64 x1.toInt) (.slice none 0 0)
    have HB := Lib.hid (below_set4 HB.out (show _ ≤ q by simp; omega) (.int .i64 m0.toInt) (.int .i64 m1.toInt) (.int .i64 x1.toInt) (.slice none 0 0))
    go_wp2
    generalize hw9 : ((((w1.setCell ⟨q, 0, none⟩ (.int .i64 m0.toInt)).setCell ⟨q, 1, none⟩ (.int .i64 m1.toInt)).setCell ⟨q, 2, none⟩ (.int .i64 x1.toInt)).setCell ⟨q, 3, none⟩ (.slice none 0 0)) = w9 at *
    have HQ := Lib.hid hh7
    have HQG := Lib.hid (show w.heap.size < q by omega)
    clear hh6 hh7 s0 s1 s2 s3 t0 t1 t2 t3 hw9 hR1 hc0 hc1 k3 k4 hq6
    go_loopw [5] (fun i wr => ∃ (k : Nat) (rs : List Rn) (B : Option Addr) (d : Nat), k ≤ 4 ∧ i = .int .i64 (2 + (k : Int)) ∧ Go.RowKit.Hid (rs = rgR xs k) ∧ wr.heap[q]? = some (.cells #[.int .i64 m0.toInt, .int .i64 m1.toInt, .int .i64 x1.toInt, .slice B rs.length d] 93 (0, 0)) ∧ OwnR 135 wr (q + 1) B rs d ∧ Below (w.alloc (.cells #[.int .i64 0, .int .i64 0, .int .i64 0, .slice none 0 0] 93)).heap.size (w.alloc (.cells #[.int .i64 0, .int .i64 0, .int .i64 0, .slice none 0 0] 93)) wr) (fun i _ => 6 - (intOf i).toNat)
    case atStart => exact ⟨0, [], none, 0, by omega, rfl, Lib.hid rfl, HQ.out, OwnR.nil_ _ _, HB.out⟩
    case round =>
      obtain ⟨k, rs, B, d, hk, rfl, hrs, hhq, hown, hbw⟩ := hrel
      have HE := Lib.hid hrs.out
      have hrl := rgR_len xs k
      rw [← hrs.out] at hrl
      have HQ := Lib.hid hhq
      have HO := Lib.hid hown
      have HB := Lib.hid hbw
      have HBN := Lib.hid (show blk B = none ∨ blk B ≠ some w.heap.size by
        cases hB : blk B with
        | none => exact .inl rfl
        | some j => exact .inr (fun e => by cases e; have h1 := (hown.lt _ hB).1; have h2 := HQG.out; omega))
      clear hrs hhq hown hbw
      have e1 : IntKind.i64.wrap (2 + (k : Int) + 1) = 2 + ((k : Int) + 1) := IntWalk.i64_in _ (by omega) |>.trans (by omega)
      have e3 : (2 + (k : Int)).toNat = 2 + k := by omega
      have e4 : 0 ≤ 2 + (k : Int) := by omega
      have e5 : 2 + (k : Int) < 8 := by omega
      by_cases hlt : k < 4
      · obtain ⟨lb, lo, hA, hcells⟩ := (HRS.out.below HB.out).at_ (show k < (words4 xs).length by rw [HL4.out]; exact hlt)
        cases hA
        have hk1 := hcells k (by rw [HL4.out]; exact hlt)
        rw [Nat.add_assoc] at hk1
        have HNX := Lib.hid (rgR_next xs k (by rw [HL4.out]; exact hlt))
        clear hcells
        generalize (words4 xs)[k]'(by rw [HL4.out]; exact hlt) = y at *
        have e6 : 2 + (k : Int) < 6 := by omega
        obtain ⟨p0, p1, p2, p3⟩ := cells4 HQ.out
        by_cases hy : y = 0#64
        · have hy1 : (y != 0#64) = false := by rw [hy]; rfl
          have hy2 : (y != BitVec.ofInt 64 0) = false := hy1
          have HE2 := Lib.hid (show rs = rgR xs (k + 1) by rw [HNX.out, if_pos hy, HE.out])
          clear hy HNX
          go_wp2
          go_roundw
          case rel => exact ⟨k + 1, rs, B, d, by omega, congrArg (Value.int .i64) (by omega), Lib.hid HE2.out, HQ.out, HO.out, HB.out⟩
          case measure => simp [intOf]; omega
        · have hy1 : (y != 0#64) = true := by rw [bne_iff_ne]; exact hy
          have hy2 : (y != BitVec.ofInt 64 0) = true := hy1
          obtain ⟨y0, hy0⟩ : ∃ m, y &&& 4294967295#64 = m := ⟨_, rfl⟩
          obtain ⟨y1, hy3⟩ : ∃ m, y >>> 32 = m := ⟨_, rfl⟩
          have HE2 := Lib.hid (show rgR xs (k + 1) = rs ++ [(y0.toInt, y1.toInt)] by rw [HNX.out, if_neg hy, HE.out]; unfold unR; rw [hy0, hy3])
          clear hy HNX p0 p1 p2 p3
          go_wp2_with fail
          apply wp_region_tail 66 16 (Eqs _ :: Eqs _ :: Eqs _ :: Eqs _ :: Eqs _ :: Eqs _ :: Eqs _ :: Eqs _ :: Eqs _ :: Eqs _ :: Eqs _ :: Eqs _ :: Eqs _ :: Eqs _ :: Eqs _ :: (SliB 0 1 1 #[.int .i64 y0.toInt, .int .i64 y1.toInt] 135) :: []) rfl (by kernel_rfl) (by rfl) (stab_cons (stab_eq _) (stab_cons (stab_eq _) (stab_cons (stab_eq _) (stab_cons (stab_eq _) (stab_cons (stab_eq _) (stab_cons (stab_eq _) (stab_cons (stab_eq _) (stab_cons (stab_eq _) (stab_cons (stab_eq _) (stab_cons (stab_eq _) (stab_cons (stab_eq _) (stab_cons (stab_eq _) (stab_cons (stab_eq _) (stab_cons (stab_eq _) (stab_cons (stab_eq _) (stab_cons stab_sliB stab_nil)))))))))))))))) (by kernel_rfl) (by kernel_rfl) (by kernel_rfl) (by kernel_rfl)
          case hstep =>
            simp only [List.take_succ_cons, List.take_zero]
            refine StepsOK.cons ?_ ?_
            · -- 0: Go.Op.fieldAddr 93 (Go.Operand.tmp 4) 3
              intro a w1 hR1 hF hU hsz
              have e4 : a.eval (.tmp 4) = _ := hU 4 (by kernel_rfl)
              rw [if_pos (by rfl)]
              intro K hK
              clear hF hU hsz
              obtain ⟨q1, q2, q3⟩ := eval_rest a
              generalize hρ : a.eval = ρ
              rw [hρ] at q1 q2 q3 e4
              clear hρ
              have u1 := OpUp_value Try.prog K
              have u2 := OpUp_enter Try.prog K
              go_simp
              exact hK _ _ (Stood.refl _) rfl
            refine StepsOK.cons ?_ ?_
            · -- 1: Go.Op.load 91 (Go.Operand.tmp 41)
              intro a w1 hR1 hF hU hsz
              have e41 : a.eval (.tmp 41) = _ := hF 0 _ _ rfl rfl (by kernel_rfl)
              rw [if_pos (by rfl)]
              intro K hK
              clear hF hU hsz
              obtain ⟨c0_, c1_, c2_, c3_⟩ := cells4 (heap_below HQ.out (Stood.cur hR1))
              obtain ⟨q1, q2, q3⟩ := eval_rest a
              generalize hρ : a.eval = ρ
              rw [hρ] at q1 q2 q3 e41
              clear hρ
              have u1 := OpUp_value Try.prog K
              have u2 := OpUp_enter Try.prog K
              go_simp
              exact hK _ _ (Stood.refl _) rfl
            refine StepsOK.cons ?_ ?_
            · -- 2: Go.Op.move (Go.Operand.tmp 0)
              intro a w1 hR1 hF hU hsz
              have e0 : a.eval (.tmp 0) = _ := hU 0 (by kernel_rfl)
              rw [if_pos (by rfl)]
              intro K hK
              clear hF hU hsz
              obtain ⟨q1, q2, q3⟩ := eval_rest a
              generalize hρ : a.eval = ρ
              rw [hρ] at q1 q2 q3 e0
              clear hρ
              have u1 := OpUp_value Try.prog K
              have u2 := OpUp_enter Try.prog K
              go_simp
              exact hK _ _ (Stood.refl _) rfl
            refine StepsOK.cons ?_ ?_
            · -- 3: Go.Op.move (Go.Operand.tmp 5)
              intro a w1 hR1 hF hU hsz
              have e5 : a.eval (.tmp 5) = _ := hU 5 (by kernel_rfl)
              rw [if_pos (by rfl)]
              intro K hK
              clear hF hU hsz
              obtain ⟨q1, q2, q3⟩ := eval_rest a
              generalize hρ : a.eval = ρ
              rw [hρ] at q1 q2 q3 e5
              clear hρ
              have u1 := OpUp_value Try.prog K
              have u2 := OpUp_enter Try.prog K
              go_simp
              exact hK _ _ (Stood.refl _) rfl
            refine StepsOK.cons ?_ ?_
            · -- 4: Go.Op.indexAddr 28 (Go.Operand.tmp 43) (Go.Operand.tmp 44)
              intro a w1 hR1 hF hU hsz
              have e43 : a.eval (.tmp 43) = _ := hF 2 _ _ rfl rfl (by kernel_rfl)
              have e44 : a.eval (.tmp 44) = _ := hF 3 _ _ rfl rfl (by kernel_rfl)
              rw [if_pos (by rfl)]
              intro K hK
              clear hF hU hsz
              obtain ⟨q1, q2, q3⟩ := eval_rest a
              generalize hρ : a.eval = ρ
              rw [hρ] at q1 q2 q3 e43 e44
              clear hρ
              have u1 := OpUp_value Try.prog K
              have u2 := OpUp_enter Try.prog K
              go_simp
              exact hK _ _ (Stood.refl _) rfl
            refine StepsOK.cons ?_ ?_
            · -- 5: Go.Op.load 22 (Go.Operand.tmp 45)
              intro a w1 hR1 hF hU hsz
              have e45 : a.eval (.tmp 45) = _ := hF 4 _ _ rfl rfl (by kernel_rfl)
              rw [if_pos (by rfl)]
              intro K hK
              clear hF hU hsz
              have hz1 := ((Stood.cur hR1).cell (p := ⟨b, off + (2 + k), none⟩) (cell_lt hk1)).trans hk1
              obtain ⟨q1, q2, q3⟩ := eval_rest a
              generalize hρ : a.eval = ρ
              rw [hρ] at q1 q2 q3 e45
              clear hρ
              have u1 := OpUp_value Try.prog K
              have u2 := OpUp_enter Try.prog K
              go_simp
              exact hK _ _ (Stood.refl _) rfl
            refine StepsOK.cons ?_ ?_
            · -- 6: Go.Op.binOp Go.BinOp.and 22 (Go.Operand.tmp 46) (Go.Operand.const (Go.Value.int 
              intro a w1 hR1 hF hU hsz
              have e46 : a.eval (.tmp 46) = _ := hF 5 _ _ rfl rfl (by kernel_rfl)
              rw [if_pos (by rfl)]
              intro K hK
              clear hF hU hsz
              obtain ⟨q1, q2, q3⟩ := eval_rest a
              generalize hρ : a.eval = ρ
              rw [hρ] at q1 q2 q3 e46
              clear hρ
              have u1 := OpUp_value Try.prog K
              have u2 := OpUp_enter Try.prog K
              go_simp
              exact hK _ _ (Stood.refl _) rfl
            refine StepsOK.cons ?_ ?_
            · -- 7: Go.Op.convert 22 3 (Go.Operand.tmp 47)
              intro a w1 hR1 hF hU hsz
              have e47 : a.eval (.tmp 47) = _ := hF 6 _ _ rfl rfl (by kernel_rfl)
              rw [if_pos (by rfl)]
              intro K hK
              clear hF hU hsz
              obtain ⟨q1, q2, q3⟩ := eval_rest a
              generalize hρ : a.eval = ρ
              rw [hρ] at q1 q2 q3 e47
              clear hρ
              have u1 := OpUp_value Try.prog K
              have u2 := OpUp_enter Try.prog K
              go_simp
              exact hK _ _ (Stood.refl _) rfl
            refine StepsOK.cons ?_ ?_
            · -- 8: Go.Op.move (Go.Operand.tmp 0)
              intro a w1 hR1 hF hU hsz
              have e0 : a.eval (.tmp 0) = _ := hU 0 (by kernel_rfl)
              rw [if_pos (by rfl)]
              intro K hK
              clear hF hU hsz
              obtain ⟨q1, q2, q3⟩ := eval_rest a
              generalize hρ : a.eval = ρ
              rw [hρ] at q1 q2 q3 e0
              clear hρ
              have u1 := OpUp_value Try.prog K
              have u2 := OpUp_enter Try.prog K
              go_simp
              exact hK _ _ (Stood.refl _) rfl
            refine StepsOK.cons ?_ ?_
            · -- 9: Go.Op.move (Go.Operand.tmp 5)
              intro a w1 hR1 hF hU hsz
              have e5 : a.eval (.tmp 5) = _ := hU 5 (by kernel_rfl)
              rw [if_pos (by rfl)]
              intro K hK
              clear hF hU hsz
              obtain ⟨q1, q2, q3⟩ := eval_rest a
              generalize hρ : a.eval = ρ
              rw [hρ] at q1 q2 q3 e5
              clear hρ
              have u1 := OpUp_value Try.prog K
              have u2 := OpUp_enter Try.prog K
              go_simp
              exact hK _ _ (Stood.refl _) rfl
            refine StepsOK.cons ?_ ?_
            · -- 10: Go.Op.indexAddr 28 (Go.Operand.tmp 49) (Go.Operand.tmp 50)
              intro a w1 hR1 hF hU hsz
              have e49 : a.eval (.tmp 49) = _ := hF 8 _ _ rfl rfl (by kernel_rfl)
              have e50 : a.eval (.tmp 50) = _ := hF 9 _ _ rfl rfl (by kernel_rfl)
              rw [if_pos (by rfl)]
              intro K hK
              clear hF hU hsz
              obtain ⟨q1, q2, q3⟩ := eval_rest a
              generalize hρ : a.eval = ρ
              rw [hρ] at q1 q2 q3 e49 e50
              clear hρ
              have u1 := OpUp_value Try.prog K
              have u2 := OpUp_enter Try.prog K
              go_simp
              exact hK _ _ (Stood.refl _) rfl
            refine StepsOK.cons ?_ ?_
            · -- 11: Go.Op.load 22 (Go.Operand.tmp 51)
              intro a w1 hR1 hF hU hsz
              have e51 : a.eval (.tmp 51) = _ := hF 10 _ _ rfl rfl (by kernel_rfl)
              rw [if_pos (by rfl)]
              intro K hK
              clear hF hU hsz
              have hz1 := ((Stood.cur hR1).cell (p := ⟨b, off + (2 + k), none⟩) (cell_lt hk1)).trans hk1
              obtain ⟨q1, q2, q3⟩ := eval_rest a
              generalize hρ : a.eval = ρ
              rw [hρ] at q1 q2 q3 e51
              clear hρ
              have u1 := OpUp_value Try.prog K
              have u2 := OpUp_enter Try.prog K
              go_simp
              exact hK _ _ (Stood.refl _) rfl
            refine StepsOK.cons ?_ ?_
            · -- 12: Go.Op.binOp Go.BinOp.shr 22 (Go.Operand.tmp 52) (Go.Operand.const (Go.Value.int 
              intro a w1 hR1 hF hU hsz
              have e52 : a.eval (.tmp 52) = _ := hF 11 _ _ rfl rfl (by kernel_rfl)
              rw [if_pos (by rfl)]
              intro K hK
              clear hF hU hsz
              obtain ⟨q1, q2, q3⟩ := eval_rest a
              generalize hρ : a.eval = ρ
              rw [hρ] at q1 q2 q3 e52
              clear hρ
              have u1 := OpUp_value Try.prog K
              have u2 := OpUp_enter Try.prog K
              go_simp
              exact hK _ _ (Stood.refl _) rfl
            refine StepsOK.cons ?_ ?_
            · -- 13: Go.Op.convert 22 3 (Go.Operand.tmp 53)
              intro a w1 hR1 hF hU hsz
              have e53 : a.eval (.tmp 53) = _ := hF 12 _ _ rfl rfl (by kernel_rfl)
              rw [if_pos (by rfl)]
              intro K hK
              clear hF hU hsz
              obtain ⟨q1, q2, q3⟩ := eval_rest a
              generalize hρ : a.eval = ρ
              rw [hρ] at q1 q2 q3 e53
              clear hρ
              have u1 := OpUp_value Try.prog K
              have u2 := OpUp_enter Try.prog K
              go_simp
              exact hK _ _ (Stood.refl _) rfl
            refine StepsOK.cons ?_ ?_
            · -- 14: Go.Op.build 135 #[(0, Go.Operand.tmp 48), (1, Go.Operand.tmp 54)]
              intro a w1 hR1 hF hU hsz
              have e48 : a.eval (.tmp 48) = _ := hF 7 _ _ rfl rfl (by kernel_rfl)
              have e54 : a.eval (.tmp 54) = _ := hF 13 _ _ rfl rfl (by kernel_rfl)
              rw [if_pos (by rfl)]
              intro K hK
              clear hF hU hsz
              obtain ⟨q1, q2, q3⟩ := eval_rest a
              generalize hρ : a.eval = ρ
              rw [hρ] at q1 q2 q3 e48 e54
              clear hρ
              have u1 := OpUp_value Try.prog K
              have u2 := OpUp_enter Try.prog K
              go_simp
              exact hK _ _ (Stood.refl _) rfl
            refine StepsOK.cons ?_ ?_
            · -- 15: Go.Op.buildSlice 91 1 #[(0, Go.Operand.tmp 55)]
              intro a w1 hR1 hF hU hsz
              have e55 : a.eval (.tmp 55) = _ := hF 14 _ _ rfl rfl (by kernel_rfl)
              rw [if_pos (by rfl)]
              intro K hK
              clear hF hU hsz
              obtain ⟨q1, q2, q3⟩ := eval_rest a
              generalize hρ : a.eval = ρ
              rw [hρ] at q1 q2 q3 e55
              clear hρ
              have u1 := OpUp_value Try.prog K
              have u2 := OpUp_enter Try.prog K
              go_simp
              exact hK _ _ ((Below.refl _ _).alloc (Nat.le_refl _) _) ⟨_, rfl, Nat.zero_le _, heap_alloc_new w1 _⟩
            exact StepsOK.nil
          case hend =>
            intro vs0 w1 hR1 hH0
            obtain ⟨vs1, rfl, hH1⟩ := hH0.eq_
            obtain ⟨vs2, rfl, hH2⟩ := hH1.eq_
            obtain ⟨vs3, rfl, hH3⟩ := hH2.eq_
            obtain ⟨vs4, rfl, hH4⟩ := hH3.eq_
            obtain ⟨vs5, rfl, hH5⟩ := hH4.eq_
            obtain ⟨vs6, rfl, hH6⟩ := hH5.eq_
            obtain ⟨vs7, rfl, hH7⟩ := hH6.eq_
            obtain ⟨vs8, rfl, hH8⟩ := hH7.eq_
            obtain ⟨vs9, rfl, hH9⟩ := hH8.eq_
            obtain ⟨vs10, rfl, hH10⟩ := hH9.eq_
            obtain ⟨vs11, rfl, hH11⟩ := hH10.eq_
            obtain ⟨vs12, rfl, hH12⟩ := hH11.eq_
            obtain ⟨vs13, rfl, hH13⟩ := hH12.eq_
            obtain ⟨vs14, rfl, hH14⟩ := hH13.eq_
            obtain ⟨vs15, rfl, hH15⟩ := hH14.eq_
            obtain ⟨v15, vs16, rfl, hv15, hH16⟩ := hH15.cons
            obtain rfl := hH16.nil
            clear hH0 hH1 hH2 hH3 hH4 hH5 hH6 hH7 hH8 hH9 hH10 hH11 hH12 hH13 hH14 hH15 hH16
            simp only [List.take_succ_cons, List.take_zero, putAll, Act.put, List.setIfInBounds_toArray, List.set_cons_zero, List.set_cons_succ]
            obtain ⟨p, rfl, hq1, hq2⟩ := hv15
            have HO1 := Lib.hid (HO.out.below (Stood.cur hR1))
            have HB1 := Lib.hid (HB.out.trans ((Stood.cur hR1).mono HB.out.size))
            have HQ1 := Lib.hid (heap_below HQ.out (Stood.cur hR1))
            have hws := (Stood.cur hR1).size
            have hqlt := heap_lt HQ1.out
            have hrd := RdR.of_heap hq2
            refine stop_ ?_
            refine appR 91 135 Try.underlying91 infoRf (.tmp 42) (.tmp 56) rfl rfl (q + 1) B rs _ d rfl rfl HO1.out (some ⟨p, 0, none⟩) [(y0.toInt, y1.toInt)] 1 1 rfl rfl hrd (by simp; omega) (by omega) ?_
            intro B2 us d2 w5 hus hown2 hg2 _
            have hQ3 : w5.heap[q]? = some _ := (hg2.block q hqlt (fun e => by have := (HO1.out.lt q e.symm).1; omega)).trans HQ1.out
            have HU := Lib.hid (show us = rgR xs (k + 1) by rw [hus, HE2.out])
            have hb3 := HB1.out.grown hg2 (by have := HB1.out.size; simp at this ⊢; omega) (fun j hj => by have := (HO1.out.lt j hj).1; have := HQG.out; simp; omega)
            have hQ4 := heap_set1 3 hQ3 (.slice B2 us.length d2)
            simp only [List.setIfInBounds_toArray, List.set_cons_zero, List.set_cons_succ] at hQ4
            have HQ4 := Lib.hid hQ4
            have HB4 := Lib.hid (hb3.setCell (p := ⟨q, 3, none⟩) (by have := HQG.out; simp; omega) (.slice B2 us.length d2))
            have HO4 := Lib.hid ((show OwnR 135 w5 (q + 1) B2 us d2 from hown2).kept (grownBy_setAt' w5 q 3 (.slice B2 us.length d2)) (by
              cases hB : blk B2 with
              | none => exact .inl rfl
              | some j => exact .inr (fun e => by cases e; have h1 := (hown2.lt _ hB).1; omega)))
            obtain ⟨o0, o1, o2, o3⟩ := cells4 hQ3
            obtain ⟨i0, i1, i2, i3⟩ := frozen4 hQ3
            clear hus hg2 hown2 hrd hQ3 hQ4 hb3 hk1 hws hq1 hq2 hR1 hqlt
            unfold Stop
            go_wp2
            go_roundw
            case rel => exact ⟨k + 1, us, B2, d2, by omega, congrArg (Value.int .i64) (by omega), Lib.hid HU.out, HQ4.out, HO4.out, HB4.out⟩
            case measure => simp [intOf]; omega
      · obtain rfl : k = 4 := by omega
        have HT := Lib.hid (show rs = rgetR xs by rw [HE.out, HALL.out])
        have e6 : ¬ 2 + ((4 : Nat) : Int) < 6 := by omega
        clear HE HALL e1 e3 e4 e5 hlt
        have HLN := Lib.hid (show (nodeW (rgetN xs) rs).length ≤ maxLen by rw [nodeW_len]; unfold maxLen; split <;> simp)
        have KP := Lib.hid (fun (W : World) (h : RdR W B rs) => show Calls Try.prog 60 #[.agg #[.int .i64 m0.toInt, .int .i64 m1.toInt, .int .i64 x1.toInt, .slice B rs.length d]] W (fun e w' => (∃ B d, e = .returned (.slice B (nodeW (rgetN xs) rs).length d) ∧ OwnU w' W.heap.size B (nodeW (rgetN xs) rs) d) ∧ Below W.heap.size W w') by
          have h9 := rnPut_any (rgetN xs) B rs d W h
          rw [HN.out] at h9 ⊢
          exact h9)
        have HOK := Lib.hid (show nodeOk xs = (nodeW (rgetN xs) rs == xs) by
          rw [HT.out, Bool.eq_iff_iff, beq_iff_eq]
          exact HSAME.out.symm)
        generalize nodeW (rgetN xs) rs = nw at *
        obtain ⟨l0, l1, l2, l3⟩ := cells4 HQ.out
        go_wp2_with fail
        refine (KP.out _ HO.out.rd).mono ?_
        rintro e wp ⟨⟨BP, dP, rfl, hown⟩, hbp⟩
        have HQ := Lib.hid (heap_below HQ.out hbp)
        have HO := Lib.hid (HO.out.below hbp)
        have HB := Lib.hid (HB.out.trans (hbp.mono HB.out.size))
        have HRP := Lib.hid hown.rd
        clear hown hbp l0 l1 l2 l3
        have HRX := Lib.hid (HRW.out.below HB.out)
        have KE := Lib.hid (show Calls Try.prog 79 #[.slice BP nw.length dP, .slice (some ⟨b, off, none⟩) 8 c] wp (fun e w' => e = .returned (.bool (nw == xs)) ∧ Drawn wp w') by
          have h9 := refSame_any nw xs BP (some ⟨b, off, none⟩) dP c wp HRP.out HRX.out HLN.out (by rw [HLL.out]; unfold maxLen; simp)
          rw [HLL.out] at h9
          exact h9)
        go_wp2_with fail
        refine KE.out.mono ?_
        rintro e we ⟨rfl, hd⟩
        have hbd := hd.below wp.heap.size
        have HQ := Lib.hid (heap_below HQ.out hbd)
        have HO := Lib.hid (HO.out.below hbd)
        have HB := Lib.hid (HB.out.trans (hbd.mono HB.out.size))
        clear hd hbd HRX HRP KE
        rw [← HOK.out]
        have hh2 := heap_below (heap_alloc_new w (.cells #[.int .i64 0, .int .i64 0, .int .i64 0, .slice none 0 0] 93)) HB.out
        obtain ⟨y0, y1, y2, y3⟩ := cells4 hh2
        obtain ⟨z0, z1, z2, z3⟩ := frozen4 hh2
        have HWP := Lib.hid (HW.out.trans (HB.out.mono HW.out.size))
        cases hq : nodeOk xs with
        | false =>
          obtain ⟨hz1, hz2⟩ := HZ.out hq
          have HZ1 := Lib.hid hz1
          have HZ2 := Lib.hid hz2
          have HNO := Lib.hid hq
          clear hz1 hz2 hq
          have hh3 := heap_set4 hh2 (.int .i64 0) (.int .i64 0) (.int .i64 0) (.slice none 0 0)
          have HWF := Lib.hid (below_set4 HWP.out (Nat.le_refl _) (.int .i64 0) (.int .i64 0) (.int .i64 0) (.slice none 0 0))
          obtain ⟨r0, r1, r2, r3⟩ := cells4 hh3
          clear hh2 hh3
          go_wp2
          refine bodyPost_ret (v := .tuple #[.agg #[.int .i64 0, .int .i64 0, .int .i64 0, .slice none 0 0], .bool false]) ?_ rfl ⟨⟨none, 0, by rw [HZ1.out, HNO.out], by rw [HZ2.out]; exact RdR.nil_⟩, HWF.out⟩
          unfold results
          rw [show Try.f56.results = #[.cell 2 93, .tmp 3] from rfl]
          go_simp
          try rfl
        | true =>
          have HV := Lib.hid (show tellN xs = rgetN xs ∧ tellR xs = rs by obtain ⟨h1, h2⟩ := HTELL.out hq; exact ⟨h1.symm, by rw [HT.out, h2]⟩)
          have HNO := Lib.hid hq
          clear hq
          have hh3 := heap_set4 hh2 (.int .i64 m0.toInt) (.int .i64 m1.toInt) (.int .i64 x1.toInt) (.slice B rs.length d)
          have HWF := Lib.hid (below_set4 HWP.out (Nat.le_refl _) (.int .i64 m0.toInt) (.int .i64 m1.toInt) (.int .i64 x1.toInt) (.slice B rs.length d))
          have HRF := Lib.hid (show RdR ((((we.setCell ⟨w.heap.size, 0, none⟩ (.int .i64 m0.toInt)).setCell ⟨w.heap.size, 1, none⟩ (.int .i64 m1.toInt)).setCell ⟨w.heap.size, 2, none⟩ (.int .i64 x1.toInt)).setCell ⟨w.heap.size, 3, none⟩ (.slice B rs.length d)) B rs from
            ((((HO.out.kept (grownBy_setAt' _ w.heap.size 0 _) HBN.out).kept (grownBy_setAt' _ w.heap.size 1 _) HBN.out).kept (grownBy_setAt' _ w.heap.size 2 _) HBN.out).kept (grownBy_setAt' _ w.heap.size 3 _) HBN.out).rd)
          obtain ⟨r0, r1, r2, r3⟩ := cells4 hh3
          obtain ⟨l0, l1, l2, l3⟩ := cells4 HQ.out
          clear hh2 hh3
          go_wp2
          refine bodyPost_ret (v := .tuple #[.agg #[.int .i64 m0.toInt, .int .i64 m1.toInt, .int .i64 x1.toInt, .slice B rs.length d], .bool true]) ?_ rfl ⟨⟨B, d, by rw [HV.out.1, HV.out.2, HN.out, HNO.out]; rfl, by rw [HV.out.2]; exact HRF.out⟩, HWF.out⟩
          unfold results
          rw [show Try.f56.results = #[.cell 2 93, .tmp 3] from rfl]
          go_simp
          try rfl
end Go.Proofs.Ytgkojedgamglgaa
