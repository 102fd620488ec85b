/- The walk of the statement SlotNames. No condition. -/
import Derived.Test.YtgkojedgamglgaaSlotW1
import Derived.Test.YtgkojedgamglgaaSlotFrame
import Derived.Test.YtgkojedgamglgaaSame9
import Derived.Test.YtgkojedgamglgaaRegion
import Derived.Test.YtgkojedgamglgaaEngQ
import Derived.KernelRfl
namespace Go.Proofs.Ytgkojedgamglgaa
open Go.RowKit
set_option linter.unusedVariables false
set_option linter.unusedSimpArgs false
theorem slotAwake_any (w : World) : Calls Try.prog 64 #[] w fun e w' => e = .returned (.bool true) ∧ Below w.heap.size w w' :=
  Eng.isTrue_ok (by kernel_rfl) (by kernel_rfl) (lf := 5000) (d := 200) (by kernel_rfl) w
/-- Two slots' values, held against each other. -/
theorem slV_eq (y z : Int) (a b : ByteArray) : ((y == z) && (a.toList == b.toList)) = decide (y = z ∧ a = b) := by
  have e : (a.toList == b.toList) = decide (a = b) := by
    by_cases h : a = b
    · subst h; simp
    · rw [decide_eq_false h, beq_eq_false_iff_ne]
      intro h2
      rw [ByteArray.toList_eq, ByteArray.toList_eq] at h2
      apply h
      cases a; cases b
      congr 1
      exact Array.toList_inj.1 h2
  rw [e]
  by_cases h1 : y = z <;> by_cases h2 : a = b <;> simp [h1, h2]
theorem slotW_same {y z : Int} {a b : ByteArray} (ha : goodS y a = true) (hb : goodS z b = true) : (slotW y a == slotW z b) = ((y == z) && (a.toList == b.toList)) := by
  rw [slV_eq]
  by_cases h : y = z ∧ a = b
  · obtain ⟨rfl, rfl⟩ := h
    simp
  · rw [decide_eq_false h, beq_eq_false_iff_ne]
    exact fun e => h (slotW_inj ha hb e)
theorem slotW_max (z : Int) (s : ByteArray) : (slotW z s).length ≤ maxLen := by rw [slotW_len]; unfold maxLen; split <;> simp
set_option maxRecDepth 100000 in
set_option maxHeartbeats 8000000 in
theorem SlotNames_walk (y : Int) (sa : ByteArray) (z : Int) (sb : ByteArray) (w : World) (h0 : (-9223372036854775808 ≤ y ∧ y ≤ 9223372036854775807) ∧ sa.size ≤ maxLen) (h1 : (-9223372036854775808 ≤ z ∧ z ≤ 9223372036854775807) ∧ sb.size ≤ maxLen) :
    Calls Try.prog 21 #[slV y sa, slV z sb] w fun e w' => e = .returned (.bool true) ∧ Below w.heap.size w w' := by
  have KA := Lib.hid (fun W => slotAwake_any W)
  have KGa := Lib.hid (fun W => sGood_any y sa W)
  have KGb := Lib.hid (fun W => sGood_any z sb W)
  have KPa := Lib.hid (fun W => sPut_any y sa W)
  have KPb := Lib.hid (fun W => sPut_any z sb W)
  have KS := Lib.hid (fun W A B c d hx hy => same9_any (slotW y sa) (slotW z sb) A B c d W hx hy (slotW_max y sa) (slotW_max z sb))
  have HE := Lib.hid (fun ha hb => slotW_same (y := y) (z := z) (a := sa) (b := sb) ha hb)
  have HMa := Lib.hid (slotW_max y sa)
  have HMb := Lib.hid (slotW_max z sb)
  clear h0 h1
  generalize goodS y sa = ga at *
  generalize goodS z sb = gb at *
  generalize slotW y sa = xa at *
  generalize slotW z sb = xb at *
  unfold slV at *
  have HX := Lib.hid ((Below.refl w.heap.size w).alloc (Nat.le_refl _) (.cells #[.int .i64 y, .string sa] 105))
  have HW := Lib.hid (HX.out.alloc HX.out.size (.cells #[.int .i64 z, .string sb] 105))
  have HAX := Lib.hid (heap_below (heap_alloc_new w (.cells #[.int .i64 y, .string sa] 105)) ((Below.refl _ _).alloc (Nat.le_refl _) (.cells #[.int .i64 z, .string sb] 105)))
  have HBX := Lib.hid (show ((w.alloc (.cells #[.int .i64 y, .string sa] 105)).alloc (.cells #[.int .i64 z, .string sb] 105)).heap[w.heap.size + 1]? = some (.cells #[.int .i64 z, .string sb] 105 (0, 0)) by have h := heap_alloc_new (w.alloc (.cells #[.int .i64 y, .string sa] 105)) (.cells #[.int .i64 z, .string sb] 105); simpa using h)
  clear HX
  by_cases q1 : 60 < (sa.size : Int)
  · skip
    go_enter Try.func21, Try.ntmps21
    go_wp2_with fail
    refine (KA.out _).mono ?_
    rintro e w1 ⟨rfl, hb⟩
    have HW := Lib.hid (HW.out.trans (hb.mono HW.out.size))
    have HAX := Lib.hid (heap_below HAX.out hb)
    have HBX := Lib.hid (heap_below HBX.out hb)
    clear hb
    obtain ⟨i0, i1⟩ := cells2 HAX.out
    obtain ⟨c0, c1⟩ := cells2 HBX.out
    go_wp2
    go_ret
    exact ⟨rfl, HW.out⟩
  by_cases q2 : 60 < (sb.size : Int)
  · skip
    go_enter Try.func21, Try.ntmps21
    go_wp2_with fail
    refine (KA.out _).mono ?_
    rintro e w1 ⟨rfl, hb⟩
    have HW := Lib.hid (HW.out.trans (hb.mono HW.out.size))
    have HAX := Lib.hid (heap_below HAX.out hb)
    have HBX := Lib.hid (heap_below HBX.out hb)
    clear hb
    obtain ⟨i0, i1⟩ := cells2 HAX.out
    obtain ⟨c0, c1⟩ := cells2 HBX.out
    go_wp2
    go_ret
    exact ⟨rfl, HW.out⟩
  cases ga with
  | false =>
    go_enter Try.func21, Try.ntmps21
    go_wp2_with fail
    refine (KA.out _).mono ?_
    rintro e w1 ⟨rfl, hb⟩
    have HW := Lib.hid (HW.out.trans (hb.mono HW.out.size))
    have HAX := Lib.hid (heap_below HAX.out hb)
    have HBX := Lib.hid (heap_below HBX.out hb)
    clear hb
    obtain ⟨i0, i1⟩ := cells2 HAX.out
    obtain ⟨c0, c1⟩ := cells2 HBX.out
    go_wp2_with fail
    refine (KGa.out _).mono ?_
    rintro e w2 ⟨rfl, hb⟩
    have HW := Lib.hid (HW.out.trans (hb.mono HW.out.size))
    have HAX := Lib.hid (heap_below HAX.out hb)
    have HBX := Lib.hid (heap_below HBX.out hb)
    clear hb
    go_wp2
    go_ret
    exact ⟨rfl, HW.out⟩
  | true =>
    cases gb with
    | false =>
      go_enter Try.func21, Try.ntmps21
      go_wp2_with fail
      refine (KA.out _).mono ?_
      rintro e w1 ⟨rfl, hb⟩
      have HW := Lib.hid (HW.out.trans (hb.mono HW.out.size))
      have HAX := Lib.hid (heap_below HAX.out hb)
      have HBX := Lib.hid (heap_below HBX.out hb)
      clear hb
      obtain ⟨i0, i1⟩ := cells2 HAX.out
      obtain ⟨c0, c1⟩ := cells2 HBX.out
      go_wp2_with fail
      refine (KGa.out _).mono ?_
      rintro e w2 ⟨rfl, hb⟩
      have HW := Lib.hid (HW.out.trans (hb.mono HW.out.size))
      have HAX := Lib.hid (heap_below HAX.out hb)
      have HBX := Lib.hid (heap_below HBX.out hb)
      clear hb
      clear i0 i1 c0 c1
      obtain ⟨i0, i1⟩ := cells2 HAX.out
      obtain ⟨c0, c1⟩ := cells2 HBX.out
      go_wp2_with fail
      refine (KGb.out _).mono ?_
      rintro e w3 ⟨rfl, hb⟩
      have HW := Lib.hid (HW.out.trans (hb.mono HW.out.size))
      have HAX := Lib.hid (heap_below HAX.out hb)
      have HBX := Lib.hid (heap_below HBX.out hb)
      clear hb
      go_wp2
      go_ret
      exact ⟨rfl, HW.out⟩
    | true =>
      have HEQ := Lib.hid (HE.out rfl rfl)
      clear HE
      go_enter Try.func21, Try.ntmps21
      go_wp2_with fail
      refine (KA.out _).mono ?_
      rintro e w1 ⟨rfl, hb⟩
      have HW := Lib.hid (HW.out.trans (hb.mono HW.out.size))
      have HAX := Lib.hid (heap_below HAX.out hb)
      have HBX := Lib.hid (heap_below HBX.out hb)
      clear hb
      obtain ⟨i0, i1⟩ := cells2 HAX.out
      obtain ⟨c0, c1⟩ := cells2 HBX.out
      go_wp2_with fail
      refine (KGa.out _).mono ?_
      rintro e w2 ⟨rfl, hb⟩
      have HW := Lib.hid (HW.out.trans (hb.mono HW.out.size))
      have HAX := Lib.hid (heap_below HAX.out hb)
      have HBX := Lib.hid (heap_below HBX.out hb)
      clear hb
      clear i0 i1 c0 c1
      obtain ⟨i0, i1⟩ := cells2 HAX.out
      obtain ⟨c0, c1⟩ := cells2 HBX.out
      go_wp2_with fail
      refine (KGb.out _).mono ?_
      rintro e w3 ⟨rfl, hb⟩
      have HW := Lib.hid (HW.out.trans (hb.mono HW.out.size))
      have HAX := Lib.hid (heap_below HAX.out hb)
      have HBX := Lib.hid (heap_below HBX.out hb)
      clear hb
      clear i0 i1 c0 c1
      go_wp2_with fail
      apply wp_region_inv' 36 (Eqs _ :: (RdUs xa) :: Eqs _ :: (RdUs xb) :: Eqs _ :: Eqs _ :: Eqs _ :: Eqs _ :: Eqs _ :: Eqs _ :: []) (by kernel_rfl) (by rfl) (stab_cons (stab_eq _) (stab_cons stab_rdU (stab_cons (stab_eq _) (stab_cons stab_rdU (stab_cons (stab_eq _) (stab_cons (stab_eq _) (stab_cons (stab_eq _) (stab_cons (stab_eq _) (stab_cons (stab_eq _) (stab_cons (stab_eq _) stab_nil)))))))))) (by kernel_rfl) (by kernel_rfl)
      case hstep =>
        refine StepsOK.cons ?_ ?_
        · -- 0: Go.Op.load 105 (Go.Operand.tmp 2)
          intro a w1 hR1 hF hU hsz
          have e2 : a.eval (.tmp 2) = _ := hU 2 (by kernel_rfl)
          rw [if_pos (by rfl)]
          intro K hK
          clear hF hU hsz
          obtain ⟨c0_, c1_⟩ := cells2 (heap_below HAX.out (Stood.cur hR1))
          obtain ⟨q1, q2, q3⟩ := eval_rest a
          generalize hρ : a.eval = ρ
          rw [hρ] at q1 q2 q3 e2
          clear hρ
          have u1 := OpUp_value Try.prog K
          have u2 := OpUp_enter Try.prog K
          go_simp
          exact hK _ _ (Stood.refl _) rfl
        refine StepsOK.cons ?_ ?_
        · -- 1: Go.Op.call { callee := Go.Callee.value (Go.Operand.func 66), args := #[Go.Operan
          intro a w1 hR1 hF hU hsz
          have e27 : a.eval (.tmp 27) = _ := hF 0 _ _ rfl rfl (by kernel_rfl)
          rw [if_pos (by rfl)]
          intro K hK
          clear hF hU hsz
          obtain ⟨q1, q2, q3⟩ := eval_rest a
          generalize hρ : a.eval = ρ
          rw [hρ] at q1 q2 q3 e27
          clear hρ
          have u1 := OpUp_value Try.prog K
          have u2 := OpUp_enter Try.prog K
          go_simp
          refine (KPa.out w1).mono ?_
          rintro e w' ⟨⟨B4, d4, rfl, ho4⟩, hb⟩
          exact ⟨_, rfl, hK _ _ hb ⟨B4, d4, rfl, ho4.rd, HMa.out⟩⟩
        refine StepsOK.cons ?_ ?_
        · -- 2: Go.Op.load 105 (Go.Operand.tmp 3)
          intro a w1 hR1 hF hU hsz
          have e3 : a.eval (.tmp 3) = _ := hU 3 (by kernel_rfl)
          rw [if_pos (by rfl)]
          intro K hK
          clear hF hU hsz
          obtain ⟨c0_, c1_⟩ := cells2 (heap_below HBX.out (Stood.cur hR1))
          obtain ⟨q1, q2, q3⟩ := eval_rest a
          generalize hρ : a.eval = ρ
          rw [hρ] at q1 q2 q3 e3
          clear hρ
          have u1 := OpUp_value Try.prog K
          have u2 := OpUp_enter Try.prog K
          go_simp
          exact hK _ _ (Stood.refl _) rfl
        refine StepsOK.cons ?_ ?_
        · -- 3: Go.Op.call { callee := Go.Callee.value (Go.Operand.func 66), args := #[Go.Operan
          intro a w1 hR1 hF hU hsz
          have e29 : a.eval (.tmp 29) = _ := hF 2 _ _ rfl rfl (by kernel_rfl)
          rw [if_pos (by rfl)]
          intro K hK
          clear hF hU hsz
          obtain ⟨q1, q2, q3⟩ := eval_rest a
          generalize hρ : a.eval = ρ
          rw [hρ] at q1 q2 q3 e29
          clear hρ
          have u1 := OpUp_value Try.prog K
          have u2 := OpUp_enter Try.prog K
          go_simp
          refine (KPb.out w1).mono ?_
          rintro e w' ⟨⟨B4, d4, rfl, ho4⟩, hb⟩
          exact ⟨_, rfl, hK _ _ hb ⟨B4, d4, rfl, ho4.rd, HMb.out⟩⟩
        refine StepsOK.cons ?_ ?_
        · -- 4: Go.Op.call { callee := Go.Callee.value (Go.Operand.func 68), args := #[Go.Operan
          intro a w1 hR1 hF hU hsz
          have e28 := hF 1 _ _ rfl rfl (by kernel_rfl)
          obtain ⟨B28, d28, e28, r28, l28⟩ := e28
          have e28 : a.eval (.tmp 28) = _ := e28
          have e30 := hF 3 _ _ rfl rfl (by kernel_rfl)
          obtain ⟨B30, d30, e30, r30, l30⟩ := e30
          have e30 : a.eval (.tmp 30) = _ := e30
          rw [if_pos (by rfl)]
          intro K hK
          clear hF hU hsz
          obtain ⟨q1, q2, q3⟩ := eval_rest a
          generalize hρ : a.eval = ρ
          rw [hρ] at q1 q2 q3 e28 e30
          clear hρ
          have u1 := OpUp_value Try.prog K
          have u2 := OpUp_enter Try.prog K
          go_simp
          refine (KS.out w1 B28 B30 d28 d30 r28 r30).mono ?_
          rintro e w' ⟨rfl, hd⟩
          exact ⟨_, rfl, hK _ _ (hd.below _) rfl⟩
        refine StepsOK.cons ?_ ?_
        · -- 5: Go.Op.load 105 (Go.Operand.tmp 2)
          intro a w1 hR1 hF hU hsz
          have e2 : a.eval (.tmp 2) = _ := hU 2 (by kernel_rfl)
          rw [if_pos (by rfl)]
          intro K hK
          clear hF hU hsz
          obtain ⟨c0_, c1_⟩ := cells2 (heap_below HAX.out (Stood.cur hR1))
          obtain ⟨q1, q2, q3⟩ := eval_rest a
          generalize hρ : a.eval = ρ
          rw [hρ] at q1 q2 q3 e2
          clear hρ
          have u1 := OpUp_value Try.prog K
          have u2 := OpUp_enter Try.prog K
          go_simp
          exact hK _ _ (Stood.refl _) rfl
        refine StepsOK.cons ?_ ?_
        · -- 6: Go.Op.load 105 (Go.Operand.tmp 3)
          intro a w1 hR1 hF hU hsz
          have e3 : a.eval (.tmp 3) = _ := hU 3 (by kernel_rfl)
          rw [if_pos (by rfl)]
          intro K hK
          clear hF hU hsz
          obtain ⟨c0_, c1_⟩ := cells2 (heap_below HBX.out (Stood.cur hR1))
          obtain ⟨q1, q2, q3⟩ := eval_rest a
          generalize hρ : a.eval = ρ
          rw [hρ] at q1 q2 q3 e3
          clear hρ
          have u1 := OpUp_value Try.prog K
          have u2 := OpUp_enter Try.prog K
          go_simp
          exact hK _ _ (Stood.refl _) rfl
        refine StepsOK.cons ?_ ?_
        · -- 7: Go.Op.binOp Go.BinOp.eql 105 (Go.Operand.tmp 32) (Go.Operand.tmp 33) 105
          intro a w1 hR1 hF hU hsz
          have e32 : a.eval (.tmp 32) = _ := hF 5 _ _ rfl rfl (by kernel_rfl)
          have e33 : a.eval (.tmp 33) = _ := hF 6 _ _ rfl rfl (by kernel_rfl)
          rw [if_pos (by rfl)]
          intro K hK
          clear hF hU hsz
          obtain ⟨q1, q2, q3⟩ := eval_rest a
          generalize hρ : a.eval = ρ
          rw [hρ] at q1 q2 q3 e32 e33
          clear hρ
          have u1 := OpUp_value Try.prog K
          have u2 := OpUp_enter Try.prog K
          go_simp
          have hv : (if y = z then if sa.toList = sb.toList then Result.ok (Next.value (Value.bool true)) w1 else Result.ok (Next.value (Value.bool false)) w1 else Result.ok (Next.value (Value.bool false)) w1) = Result.ok (Next.value (Value.bool (xa == xb))) w1 := by rw [HEQ.out]; by_cases p1 : y = z <;> by_cases p2 : sa.toList = sb.toList <;> simp [p1, p2]
          rw [hv]
          exact hK _ _ (Stood.refl _) rfl
        refine StepsOK.cons ?_ ?_
        · -- 8: Go.Op.binOp Go.BinOp.eql 4 (Go.Operand.tmp 31) (Go.Operand.tmp 34) 4
          intro a w1 hR1 hF hU hsz
          have e31 : a.eval (.tmp 31) = _ := hF 4 _ _ rfl rfl (by kernel_rfl)
          have e34 : a.eval (.tmp 34) = _ := hF 7 _ _ rfl rfl (by kernel_rfl)
          rw [if_pos (by rfl)]
          intro K hK
          clear hF hU hsz
          obtain ⟨q1, q2, q3⟩ := eval_rest a
          generalize hρ : a.eval = ρ
          rw [hρ] at q1 q2 q3 e31 e34
          clear hρ
          have u1 := OpUp_value Try.prog K
          have u2 := OpUp_enter Try.prog K
          go_simp
          exact hK _ _ (Stood.refl _) rfl
        refine StepsOK.cons ?_ ?_
        · -- 9: Go.Op.assign (Go.Operand.tmp 35)
          intro a w1 hR1 hF hU hsz
          have e35 : a.eval (.tmp 35) = _ := hF 8 _ _ rfl rfl (by kernel_rfl)
          rw [if_pos (by rfl)]
          intro K hK
          clear hF hU hsz
          obtain ⟨q1, q2, q3⟩ := eval_rest a
          generalize hρ : a.eval = ρ
          rw [hρ] at q1 q2 q3 e35
          clear hρ
          have u1 := OpUp_value Try.prog K
          have u2 := OpUp_enter Try.prog K
          go_simp
          exact hK _ _ (Stood.refl _) rfl
        exact StepsOK.nil
      case hend =>
        intro vs0 w1 hR1 hH0
        obtain ⟨vs1, rfl, hH1⟩ := hH0.eq_
        obtain ⟨v1, vs2, rfl, hv1, hH2⟩ := hH1.cons
        obtain ⟨vs3, rfl, hH3⟩ := hH2.eq_
        obtain ⟨v3, vs4, rfl, hv3, hH4⟩ := hH3.cons
        obtain ⟨vs5, rfl, hH5⟩ := hH4.eq_
        obtain ⟨vs6, rfl, hH6⟩ := hH5.eq_
        obtain ⟨vs7, rfl, hH7⟩ := hH6.eq_
        obtain ⟨vs8, rfl, hH8⟩ := hH7.eq_
        obtain ⟨vs9, rfl, hH9⟩ := hH8.eq_
        obtain ⟨vs10, rfl, hH10⟩ := hH9.eq_
        obtain rfl := hH10.nil
        clear hH0 hH1 hH2 hH3 hH4 hH5 hH6 hH7 hH8 hH9 hH10
        simp only [putAll, Act.put, List.setIfInBounds_toArray, List.set_cons_zero, List.set_cons_succ]
        have HW := Lib.hid (HW.out.trans ((Stood.cur hR1).mono HW.out.size))
        go_wp2
        go_ret
        exact ⟨ret_bool (by simp), HW.out⟩
end Go.Proofs.Ytgkojedgamglgaa
