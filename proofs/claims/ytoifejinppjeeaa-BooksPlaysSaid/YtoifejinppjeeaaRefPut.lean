/- The walk of the reference's PutRec. Condition: the slice can be read. -/
import Derived.Test.YtoifejinppjeeaaRedoPlain
import Derived.Test.YtoifejinppjeeaaRedoSizeW
import Derived.Test.YtoifejinppjeeaaSealRefWalks
import Derived.Test.YtoifejinppjeeaaCtx
import Derived.Test.YtoifejinppjeeaaRegion5
import Derived.Test.YtoifejinppjeeaaRedoGet
import Derived.BigQuiet
namespace Go.Proofs.Ytoifejinppjeeaa
open Go.RowKit
set_option linter.unusedVariables false
set_option linter.unusedSimpArgs false
theorem any_take_of {α : Type} {p : α → Bool} {l : List α} {k : Nat} (h : (l.take k).any p = true) : l.any p = true := by
  rw [List.any_eq_true] at *
  obtain ⟨x, hx, hp⟩ := h
  exact ⟨x, List.mem_of_mem_take hx, hp⟩
set_option maxRecDepth 100000 in
set_option maxHeartbeats 4000000 in
theorem rfPut_any (num : BitVec 64) (ws : List (Int × BitVec 64)) (L : Option Addr) (lc : Nat) (w : World) (hl : RdW w L ws) (hn : ws.length ≤ 400) :
    Calls Try.prog 69 #[.agg #[U num, .slice L ws.length lc]] w fun e w' => (∃ B d, e = .returned (.slice B (recW num ws).length d) ∧ OwnU w' w.heap.size B (recW num ws) d) ∧ Below w.heap.size w w' := by
  have HL := Lib.hid hl
  clear hl
  have HW := Lib.hid ((Below.refl w.heap.size w).alloc (Nat.le_refl _) (.cells #[U num, .slice L ws.length lc] 107))
  have HAX := Lib.hid (heap_alloc_new w (.cells #[U num, .slice L ws.length lc] 107))
  have h4 : ¬ 400 < (ws.length : Int) := by omega
  by_cases h0 : num = 0#64
  · subst h0
    have HR := Lib.hid (show recW 0#64 ws = [] by unfold recW; rw [if_pos (.inl rfl)])
    have hv0 : (0#64 == BitVec.ofInt 64 0) = true := by decide
    go_enter Try.func69, Try.ntmps69
    go_wp2
    go_ret
    exact ⟨⟨none, 0, by rw [HR.out]; rfl, by rw [HR.out]; exact OwnU.nil_ _ _⟩, HW.out⟩
  have hv1 : (num == 0#64) = false := by rw [beq_eq_false_iff_ne]; exact h0
  have hv2 : (num == BitVec.ofInt 64 0) = false := by rw [beq_eq_false_iff_ne]; exact h0
  have HLEN := Lib.hid (fun k hk => recL_take num (BitVec.ofNat 64 ws.length) ws k hk)
  have HFT := Lib.hid (fun k h => flatW_take ws k h)
  have HRL := Lib.hid (show num :: BitVec.ofNat 64 ws.length :: flatW (ws.take ws.length) = recL num ws by rw [List.take_length]; rfl)
  have HOK := Lib.hid (fun (h : ws.any badW = false) => show recW num ws = recL num ws ++ [sealOf (recL num ws)] by
    unfold recW
    rw [if_neg (by rintro (g | g); exact h0 g; rw [h] at g; cases g)])
  have HNO := Lib.hid (fun (h : ws.any badW = true) => show recW num ws = [] by unfold recW; rw [if_pos (.inr h)])
  clear h0
  have HO1 := Lib.hid (show OwnU ((w.alloc (.cells #[U num, .slice L ws.length lc] 107)).alloc (.cells #[U num, U (BitVec.ofNat 64 ws.length)] 22)) (w.heap.size + 1) (some ⟨w.heap.size + 1, 0, none⟩) [num, BitVec.ofNat 64 ws.length] 2 from by
    have h := OwnU.lit (w.alloc (.cells #[U num, .slice L ws.length lc] 107)) (w.heap.size + 1) [num, BitVec.ofNat 64 ws.length] (by simp) (by unfold maxLen; simp)
    simpa using h)
  have HX := Lib.hid (HW.out.alloc HW.out.size (.cells #[U num, U (BitVec.ofNat 64 ws.length)] 22))
  have HAX1 := Lib.hid (heap_below HAX.out ((Below.refl _ _).alloc (Nat.le_refl _) (.cells #[U num, U (BitVec.ofNat 64 ws.length)] 22)))
  go_enter Try.func69, Try.ntmps69
  go_wp2
  generalize (w.alloc (.cells #[U num, .slice L ws.length lc] 107)).alloc (.cells #[U num, U (BitVec.ofNat 64 ws.length)] 22) = wx at *
  generalize BitVec.ofNat 64 ws.length = lw at *
  clear HAX HW
  go_loopw [3, 4] (fun s i wr => ∃ (k : Nat) (B : Option Addr) (d : Nat), k ≤ ws.length ∧ i = .int .i64 k ∧ s = .slice B (2 + 2 * k) d ∧ (ws.take k).any badW = false ∧ OwnU wr (w.heap.size + 1) B (num :: lw :: flatW (ws.take k)) d ∧ Below w.heap.size w wr ∧ wr.heap[w.heap.size]? = some (.cells #[U num, .slice L ws.length lc] 107 (0, 0))) (fun _ i _ => ws.length - (intOf i).toNat)
  case atStart => exact ⟨0, _, _, Nat.zero_le _, rfl, rfl, rfl, HO1.out, HX.out, HAX1.out⟩
  case round =>
    clear HO1 HX HAX1
    obtain ⟨k, B, d, hk, rfl, rfl, hnt, hown, hbw, hax⟩ := hrel
    have HO := Lib.hid hown
    have HB := Lib.hid hbw
    have HAX := Lib.hid hax
    have HNT := Lib.hid hnt
    have hz := hbw.size
    clear hown hbw hax hnt
    obtain ⟨i0, i1⟩ := cells2 HAX.out
    by_cases hlt : k < ws.length
    · obtain ⟨lb, lo, rfl, hlc⟩ := (HL.out.below HB.out).at_ hlt
      obtain ⟨hk1, hk2⟩ := hlc k hlt
      have HFK := Lib.hid (HFT.out k hlt)
      have HBT := Lib.hid (any_take_bad ws k hlt)
      clear hlc
      generalize hzv : ws[k] = zv at *
      obtain ⟨z, v⟩ := zv
      clear hzv
      simp only at hk1 hk2 HFK
      have hcl := HLEN.out k hk
      have e0 : IntKind.i64.wrap ((k : Int) + 1) = (k : Int) + 1 := IntWalk.i64_in _ (by omega)
      by_cases hz0 : z < 0
      · have HR := Lib.hid (HNO.out (any_take_of (k := k + 1) (by rw [HBT.out]; unfold badW; rw [decide_eq_true (show (z, v).1 < 0 from hz0)]; simp)))
        go_wp2
        go_ret
        exact ⟨⟨none, 0, by rw [HR.out]; rfl, by rw [HR.out]; exact OwnU.nil_ _ _⟩, HB.out⟩
      by_cases hz1 : 1048576 < z
      · have HR := Lib.hid (HNO.out (any_take_of (k := k + 1) (by rw [HBT.out]; unfold badW; rw [decide_eq_true (show 1048576 < (z, v).1 from hz1)]; simp)))
        go_wp2
        go_ret
        exact ⟨⟨none, 0, by rw [HR.out]; rfl, by rw [HR.out]; exact OwnU.nil_ _ _⟩, HB.out⟩
      have HBZ := Lib.hid (show ((ws.take (k + 1)).any badW = ((ws.take k).any badW || false)) by rw [HBT.out]; unfold badW; rw [decide_eq_false (show ¬ (z, v).1 < 0 from hz0), decide_eq_false (show ¬ 1048576 < (z, v).1 from hz1)]; rfl)
      have HNT := Lib.hid (show (ws.take (k + 1)).any badW = false by rw [HBZ.out, HNT.out]; rfl)
      have HBZ := Lib.hid (show false = false from rfl)
      have HNB := Lib.hid (show ¬ some w.heap.size = blk B from fun e => by have := (HO.out.lt _ e.symm).1; omega)
      clear HBT
      go_wp2_with fail
      apply wp_region_tail 65 15 (Eqs _ :: Eqs _ :: Eqs _ :: Eqs _ :: Eqs _ :: Eqs _ :: Eqs _ :: Eqs _ :: Eqs _ :: Eqs _ :: Eqs _ :: Eqs _ :: Eqs _ :: Eqs _ :: (SliW 0 2 2 #[U (BitVec.ofInt 64 z), U v] 22) :: []) rfl (by kernel_rfl) (by rfl) (stab_cons (stab_eq _) (stab_cons (stab_eq _) (stab_cons (stab_eq _) (stab_cons (stab_eq _) (stab_cons (stab_eq _) (stab_cons (stab_eq _) (stab_cons (stab_eq _) (stab_cons (stab_eq _) (stab_cons (stab_eq _) (stab_cons (stab_eq _) (stab_cons (stab_eq _) (stab_cons (stab_eq _) (stab_cons (stab_eq _) (stab_cons (stab_eq _) (stab_cons stab_sliW stab_nil))))))))))))))) (by kernel_rfl) (by kernel_rfl) (by kernel_rfl) (by kernel_rfl)
      case hstep =>
        simp only [List.take_succ_cons, List.take_zero]
        refine StepsOK.cons ?_ ?_
        · -- 0: Go.Op.move (Go.Operand.tmp 3)
          intro a w1 hR1 hF hU hsz
          have e3 : a.eval (.tmp 3) = _ := hU 3 (by kernel_rfl)
          rw [if_pos (by rfl)]
          intro K hK
          clear hF hU hsz
          obtain ⟨q1, q2, q3⟩ := eval_rest a
          generalize hρ : a.eval = ρ
          rw [hρ] at q1 q2 q3 e3
          clear hρ
          have u1 := OpUp_value Try.prog K
          have u2 := OpUp_enter Try.prog K
          go_simp
          exact hK _ _ (Stood.refl _) rfl
        refine StepsOK.cons ?_ ?_
        · -- 1: Go.Op.fieldAddr 72 (Go.Operand.tmp 1) 1
          intro a w1 hR1 hF hU hsz
          have e1 : a.eval (.tmp 1) = _ := hU 1 (by kernel_rfl)
          rw [if_pos (by rfl)]
          intro K hK
          clear hF hU hsz
          obtain ⟨q1, q2, q3⟩ := eval_rest a
          generalize hρ : a.eval = ρ
          rw [hρ] at q1 q2 q3 e1
          clear hρ
          have u1 := OpUp_value Try.prog K
          have u2 := OpUp_enter Try.prog K
          go_simp
          exact hK _ _ (Stood.refl _) rfl
        refine StepsOK.cons ?_ ?_
        · -- 2: Go.Op.load 64 (Go.Operand.tmp 45)
          intro a w1 hR1 hF hU hsz
          have e45 : a.eval (.tmp 45) = _ := hF 1 _ _ rfl rfl (by kernel_rfl)
          rw [if_pos (by rfl)]
          intro K hK
          clear hF hU hsz
          obtain ⟨c0_, c1_⟩ := cells2 (heap_below HAX.out (Stood.cur hR1))
          obtain ⟨q1, q2, q3⟩ := eval_rest a
          generalize hρ : a.eval = ρ
          rw [hρ] at q1 q2 q3 e45
          clear hρ
          have u1 := OpUp_value Try.prog K
          have u2 := OpUp_enter Try.prog K
          go_simp
          exact hK _ _ (Stood.refl _) rfl
        refine StepsOK.cons ?_ ?_
        · -- 3: Go.Op.move (Go.Operand.tmp 4)
          intro a w1 hR1 hF hU hsz
          have e4 : a.eval (.tmp 4) = _ := hU 4 (by kernel_rfl)
          rw [if_pos (by rfl)]
          intro K hK
          clear hF hU hsz
          obtain ⟨q1, q2, q3⟩ := eval_rest a
          generalize hρ : a.eval = ρ
          rw [hρ] at q1 q2 q3 e4
          clear hρ
          have u1 := OpUp_value Try.prog K
          have u2 := OpUp_enter Try.prog K
          go_simp
          exact hK _ _ (Stood.refl _) rfl
        refine StepsOK.cons ?_ ?_
        · -- 4: Go.Op.indexAddr 64 (Go.Operand.tmp 46) (Go.Operand.tmp 47)
          intro a w1 hR1 hF hU hsz
          have e46 : a.eval (.tmp 46) = _ := hF 2 _ _ rfl rfl (by kernel_rfl)
          have e47 : a.eval (.tmp 47) = _ := hF 3 _ _ rfl rfl (by kernel_rfl)
          rw [if_pos (by rfl)]
          intro K hK
          clear hF hU hsz
          obtain ⟨q1, q2, q3⟩ := eval_rest a
          generalize hρ : a.eval = ρ
          rw [hρ] at q1 q2 q3 e46 e47
          clear hρ
          have u1 := OpUp_value Try.prog K
          have u2 := OpUp_enter Try.prog K
          go_simp
          exact hK _ _ (Stood.refl _) rfl
        refine StepsOK.cons ?_ ?_
        · -- 5: Go.Op.fieldAddr 70 (Go.Operand.tmp 48) 0
          intro a w1 hR1 hF hU hsz
          have e48 : a.eval (.tmp 48) = _ := hF 4 _ _ rfl rfl (by kernel_rfl)
          rw [if_pos (by rfl)]
          intro K hK
          clear hF hU hsz
          obtain ⟨q1, q2, q3⟩ := eval_rest a
          generalize hρ : a.eval = ρ
          rw [hρ] at q1 q2 q3 e48
          clear hρ
          have u1 := OpUp_value Try.prog K
          have u2 := OpUp_enter Try.prog K
          go_simp
          exact hK _ _ (Stood.refl _) rfl
        refine StepsOK.cons ?_ ?_
        · -- 6: Go.Op.load 3 (Go.Operand.tmp 49)
          intro a w1 hR1 hF hU hsz
          have e49 : a.eval (.tmp 49) = _ := hF 5 _ _ rfl rfl (by kernel_rfl)
          rw [if_pos (by rfl)]
          intro K hK
          clear hF hU hsz
          have hz1 := ((Stood.cur hR1).cell (cell_lt hk1)).trans hk1
          obtain ⟨q1, q2, q3⟩ := eval_rest a
          generalize hρ : a.eval = ρ
          rw [hρ] at q1 q2 q3 e49
          clear hρ
          have u1 := OpUp_value Try.prog K
          have u2 := OpUp_enter Try.prog K
          go_simp
          exact hK _ _ (Stood.refl _) rfl
        refine StepsOK.cons ?_ ?_
        · -- 7: Go.Op.convert 3 22 (Go.Operand.tmp 50)
          intro a w1 hR1 hF hU hsz
          have e50 : a.eval (.tmp 50) = _ := hF 6 _ _ rfl rfl (by kernel_rfl)
          rw [if_pos (by rfl)]
          intro K hK
          clear hF hU hsz
          obtain ⟨q1, q2, q3⟩ := eval_rest a
          generalize hρ : a.eval = ρ
          rw [hρ] at q1 q2 q3 e50
          clear hρ
          have u1 := OpUp_value Try.prog K
          have u2 := OpUp_enter Try.prog K
          go_simp
          exact hK _ _ (Stood.refl _) rfl
        refine StepsOK.cons ?_ ?_
        · -- 8: Go.Op.fieldAddr 72 (Go.Operand.tmp 1) 1
          intro a w1 hR1 hF hU hsz
          have e1 : a.eval (.tmp 1) = _ := hU 1 (by kernel_rfl)
          rw [if_pos (by rfl)]
          intro K hK
          clear hF hU hsz
          obtain ⟨q1, q2, q3⟩ := eval_rest a
          generalize hρ : a.eval = ρ
          rw [hρ] at q1 q2 q3 e1
          clear hρ
          have u1 := OpUp_value Try.prog K
          have u2 := OpUp_enter Try.prog K
          go_simp
          exact hK _ _ (Stood.refl _) rfl
        refine StepsOK.cons ?_ ?_
        · -- 9: Go.Op.load 64 (Go.Operand.tmp 52)
          intro a w1 hR1 hF hU hsz
          have e52 : a.eval (.tmp 52) = _ := hF 8 _ _ rfl rfl (by kernel_rfl)
          rw [if_pos (by rfl)]
          intro K hK
          clear hF hU hsz
          obtain ⟨c0_, c1_⟩ := cells2 (heap_below HAX.out (Stood.cur hR1))
          obtain ⟨q1, q2, q3⟩ := eval_rest a
          generalize hρ : a.eval = ρ
          rw [hρ] at q1 q2 q3 e52
          clear hρ
          have u1 := OpUp_value Try.prog K
          have u2 := OpUp_enter Try.prog K
          go_simp
          exact hK _ _ (Stood.refl _) rfl
        refine StepsOK.cons ?_ ?_
        · -- 10: Go.Op.move (Go.Operand.tmp 4)
          intro a w1 hR1 hF hU hsz
          have e4 : a.eval (.tmp 4) = _ := hU 4 (by kernel_rfl)
          rw [if_pos (by rfl)]
          intro K hK
          clear hF hU hsz
          obtain ⟨q1, q2, q3⟩ := eval_rest a
          generalize hρ : a.eval = ρ
          rw [hρ] at q1 q2 q3 e4
          clear hρ
          have u1 := OpUp_value Try.prog K
          have u2 := OpUp_enter Try.prog K
          go_simp
          exact hK _ _ (Stood.refl _) rfl
        refine StepsOK.cons ?_ ?_
        · -- 11: Go.Op.indexAddr 64 (Go.Operand.tmp 53) (Go.Operand.tmp 54)
          intro a w1 hR1 hF hU hsz
          have e53 : a.eval (.tmp 53) = _ := hF 9 _ _ rfl rfl (by kernel_rfl)
          have e54 : a.eval (.tmp 54) = _ := hF 10 _ _ rfl rfl (by kernel_rfl)
          rw [if_pos (by rfl)]
          intro K hK
          clear hF hU hsz
          obtain ⟨q1, q2, q3⟩ := eval_rest a
          generalize hρ : a.eval = ρ
          rw [hρ] at q1 q2 q3 e53 e54
          clear hρ
          have u1 := OpUp_value Try.prog K
          have u2 := OpUp_enter Try.prog K
          go_simp
          exact hK _ _ (Stood.refl _) rfl
        refine StepsOK.cons ?_ ?_
        · -- 12: Go.Op.fieldAddr 70 (Go.Operand.tmp 55) 1
          intro a w1 hR1 hF hU hsz
          have e55 : a.eval (.tmp 55) = _ := hF 11 _ _ rfl rfl (by kernel_rfl)
          rw [if_pos (by rfl)]
          intro K hK
          clear hF hU hsz
          obtain ⟨q1, q2, q3⟩ := eval_rest a
          generalize hρ : a.eval = ρ
          rw [hρ] at q1 q2 q3 e55
          clear hρ
          have u1 := OpUp_value Try.prog K
          have u2 := OpUp_enter Try.prog K
          go_simp
          exact hK _ _ (Stood.refl _) rfl
        refine StepsOK.cons ?_ ?_
        · -- 13: Go.Op.load 22 (Go.Operand.tmp 56)
          intro a w1 hR1 hF hU hsz
          have e56 : a.eval (.tmp 56) = _ := hF 12 _ _ rfl rfl (by kernel_rfl)
          rw [if_pos (by rfl)]
          intro K hK
          clear hF hU hsz
          have hz1 := ((Stood.cur hR1).cell (cell_lt hk2)).trans hk2
          obtain ⟨q1, q2, q3⟩ := eval_rest a
          generalize hρ : a.eval = ρ
          rw [hρ] at q1 q2 q3 e56
          clear hρ
          have u1 := OpUp_value Try.prog K
          have u2 := OpUp_enter Try.prog K
          go_simp
          exact hK _ _ (Stood.refl _) rfl
        refine StepsOK.cons ?_ ?_
        · -- 14: Go.Op.buildSlice 28 2 #[(0, Go.Operand.tmp 51), (1, Go.Operand.tmp 57)]
          intro a w1 hR1 hF hU hsz
          have e51 : a.eval (.tmp 51) = _ := hF 7 _ _ rfl rfl (by kernel_rfl)
          have e57 : a.eval (.tmp 57) = _ := hF 13 _ _ rfl rfl (by kernel_rfl)
          rw [if_pos (by rfl)]
          intro K hK
          clear hF hU hsz
          obtain ⟨q1, q2, q3⟩ := eval_rest a
          generalize hρ : a.eval = ρ
          rw [hρ] at q1 q2 q3 e51 e57
          clear hρ
          have u1 := OpUp_value Try.prog K
          have u2 := OpUp_enter Try.prog K
          go_simp
          exact hK _ _ ((Below.refl _ _).alloc (Nat.le_refl _) _) ⟨_, rfl, Nat.zero_le _, heap_alloc_new w1 _⟩
        exact StepsOK.nil
      case hend =>
        intro vs0 w1 hR1 hH0
        obtain ⟨vs1, rfl, hH1⟩ := hH0.eq_
        obtain ⟨vs2, rfl, hH2⟩ := hH1.eq_
        obtain ⟨vs3, rfl, hH3⟩ := hH2.eq_
        obtain ⟨vs4, rfl, hH4⟩ := hH3.eq_
        obtain ⟨vs5, rfl, hH5⟩ := hH4.eq_
        obtain ⟨vs6, rfl, hH6⟩ := hH5.eq_
        obtain ⟨vs7, rfl, hH7⟩ := hH6.eq_
        obtain ⟨vs8, rfl, hH8⟩ := hH7.eq_
        obtain ⟨vs9, rfl, hH9⟩ := hH8.eq_
        obtain ⟨vs10, rfl, hH10⟩ := hH9.eq_
        obtain ⟨vs11, rfl, hH11⟩ := hH10.eq_
        obtain ⟨vs12, rfl, hH12⟩ := hH11.eq_
        obtain ⟨vs13, rfl, hH13⟩ := hH12.eq_
        obtain ⟨vs14, rfl, hH14⟩ := hH13.eq_
        obtain ⟨v14, vs15, rfl, hv14, hH15⟩ := hH14.cons
        obtain rfl := hH15.nil
        clear hH0 hH1 hH2 hH3 hH4 hH5 hH6 hH7 hH8 hH9 hH10 hH11 hH12 hH13 hH14 hH15
        simp only [List.take_succ_cons, List.take_zero, putAll, Act.put, List.setIfInBounds_toArray, List.set_cons_zero, List.set_cons_succ]
        obtain ⟨q, rfl, hq1, hq2⟩ := hv14
        have HO1 := Lib.hid (HO.out.below (Stood.cur hR1))
        have HB1 := Lib.hid (HB.out.trans ((Stood.cur hR1).mono HB.out.size))
        have HAX1 := Lib.hid (heap_below HAX.out (Stood.cur hR1))
        have hrd : RdU w1 (some ⟨q, 0, none⟩) [BitVec.ofInt 64 z, v] := .inr ⟨q, 0, rfl, fun j hj => by
          have hj2 : j < 2 := hj
          match j, hj2 with
          | 0, _ => exact Lib.cell_of_heap hq2 0
          | 1, _ => exact Lib.cell_of_heap hq2 1⟩
        have hbs := HB1.out.size
        refine stop_ ?_
        refine appU (.tmp 44) (.tmp 58) rfl rfl (w.heap.size + 1) B (num :: lw :: flatW (ws.take k)) _ d rfl hcl.symm HO1.out (some ⟨q, 0, none⟩) [BitVec.ofInt 64 z, v] 2 2 rfl rfl hrd (by rw [hcl]; simp; omega) (by have := heap_lt HAX1.out; omega) ?_
        intro B2 us d2 w3 hus hown2 hg2 _
        have HB3 := Lib.hid (below_app HB1.out HO1.out hg2 (by omega) (by omega))
        have HU := Lib.hid (show us = num :: lw :: flatW (ws.take (k + 1)) by rw [hus, HFK.out]; rfl)
        have HUL := Lib.hid (show us.length = 2 + 2 * (k + 1) by rw [HU.out]; exact HLEN.out (k + 1) hlt)
        have HO3 := Lib.hid hown2
        have HAX3 := Lib.hid ((hg2.block w.heap.size (heap_lt HAX1.out) HNB.out).trans HAX1.out)
        clear hus hg2 hown2 hrd hq1 hq2 hbs hcl
        unfold Stop
        go_wp2
        go_roundw
        case rel => exact ⟨k + 1, B2, d2, hlt, by go_num, by rw [HUL.out], HNT.out, by rw [← HU.out]; exact HO3.out, HB3.out, HAX3.out⟩
        case measure => simp [intOf]; omega
    · obtain rfl : k = ws.length := by omega
      have HNB := Lib.hid (show ws.any badW = false by have h := HNT.out; rw [List.take_length] at h; exact h)
      have HR := Lib.hid (HOK.out HNB.out)
      have hcl := HLEN.out ws.length (Nat.le_refl _)
      rw [HRL.out] at HO hcl
      have KO := Lib.hid (show Calls Try.prog 100 #[.slice B (2 + 2 * ws.length) d] wr (fun e w' => e = .returned (U (sealOf (recL num ws))) ∧ Drawn wr w') by
        have h := refOf_any (recL num ws) B d wr HO.out.rd (by rw [hcl]; unfold maxLen; omega)
        rw [hcl] at h
        exact h)
      go_wp2_with fail
      refine KO.out.mono ?_
      rintro e w5 ⟨rfl, hd⟩
      have HO := Lib.hid (HO.out.below (hd.below _))
      have HAX := Lib.hid (heap_below HAX.out (hd.below _))
      have HB := Lib.hid (HB.out.trans ((hd.below _).mono HB.out.size))
      have hz := HB.out.size
      clear hd i0 i1 KO
      go_wp2_with (first | go_skip | (at_builtin; refine stop_ ?_))
      have hbx : Below w5.heap.size w5 (w5.alloc (.cells #[U (sealOf (recL num ws))] 22)) := (Below.refl _ _).alloc (Nat.le_refl _) _
      have hby := HB.out.trans (hbx.mono hz)
      have hox := HO.out.below hbx
      refine appU (.tmp 60) (.tmp 63) rfl rfl (w.heap.size + 1) B (recL num ws) _ d rfl hcl.symm hox (some ⟨w5.heap.size, 0, none⟩) [sealOf (recL num ws)] 1 1 rfl rfl (RdU.new1 _ _ _) (by rw [hcl]; simp; omega) (by have := hbx.size; have := heap_lt HAX.out; omega) ?_
      intro B2 us d2 w3 hus hown2 hg2 _
      have HB3 := Lib.hid (below_app hby hox hg2 (by have := hbx.size; omega) (by omega))
      have HU := Lib.hid (show us = recW num ws by rw [hus, HR.out])
      have HO3 := Lib.hid (show OwnU w3 w.heap.size B2 us d2 from Go.Joins.ownsRow_le hown2 (by omega))
      clear hus hg2 hown2 hbx hby hox
      unfold Stop
      go_wp2
      go_ret
      exact ⟨⟨B2, d2, by rw [← HU.out]; rfl, by rw [← HU.out]; exact HO3.out⟩, HB3.out⟩
end Go.Proofs.Ytoifejinppjeeaa
