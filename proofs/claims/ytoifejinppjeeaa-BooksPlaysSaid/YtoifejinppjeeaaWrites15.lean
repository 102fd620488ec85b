/- The walks of a law's own 'writes' and 'equal', and of redo.Same. Condition: the slices can be read. -/
import Derived.Test.YtoifejinppjeeaaRedoGet
import Derived.BigQuiet
namespace Go.Proofs.Ytoifejinppjeeaa
open Go.RowKit
set_option linter.unusedVariables false
set_option linter.unusedSimpArgs false
theorem take_succ_w15 {α : Type} (xs ys : List α) (k : Nat) (h1 : k < xs.length) (h2 : k < ys.length) (h : xs.take k = ys.take k) (he : xs[k] = ys[k]) : xs.take (k + 1) = ys.take (k + 1) := by
  rw [List.take_succ_eq_append_getElem h1, List.take_succ_eq_append_getElem h2, h, he]
theorem infoLw : (Try.prog.info? 131).map (fun i => (i.zero, i.size, i.bytes)) = some (some (.agg #[.int .i64 0, .int .u64 0]), 2, 16) := by kernel_rfl
set_option maxRecDepth 100000 in
set_option maxHeartbeats 4000000 in
theorem writesF_any (ws : List (Int × BitVec 64)) (L : Option Addr) (lc : Nat) (w : World) (hl : RdW w L ws) (hn : ws.length ≤ 1000) :
    Calls Try.prog 68 #[.slice L ws.length lc] w fun e w' => (∃ B d, e = .returned (.slice B ws.length d) ∧ RdW w' B ws ∧ ∀ q, blk B = some q → w.heap.size ≤ q) ∧ Below w.heap.size w w' := by
  have HL := Lib.hid hl
  clear hl
  go_enter Try.func68, Try.ntmps68
  go_wp2
  go_loopw [3, 4] (fun s i wr => ∃ (k : Nat) (B : Option Addr) (d : Nat), k ≤ ws.length ∧ i = .int .i64 k ∧ s = .slice B k d ∧ OwnW 131 wr w.heap.size B (ws.take k) d ∧ Below w.heap.size w wr) (fun _ i _ => ws.length - (intOf i).toNat)
  case atStart => exact ⟨0, none, 0, Nat.zero_le _, rfl, rfl, OwnW.nil_ _ _, Below.refl _ _⟩
  case round =>
    obtain ⟨k, B, d, hk, rfl, rfl, hown, hbw⟩ := hrel
    have HO := Lib.hid hown
    have HB := Lib.hid hbw
    have HTL := Lib.hid (show (ws.take k).length = k by rw [List.length_take]; omega)
    clear hown hbw
    by_cases hlt : k < ws.length
    · obtain ⟨lb, lo, rfl, hlc⟩ := (HL.out.below HB.out).at_ hlt
      obtain ⟨hk1, hk2⟩ := hlc k hlt
      have HT := Lib.hid (List.take_succ_eq_append_getElem hlt)
      clear hlc
      generalize ws[k] = zv at *
      obtain ⟨z, v⟩ := zv
      simp only at hk1 hk2
      have e0 : IntKind.i64.wrap ((k : Int) + 1) = (k : Int) + 1 := IntWalk.i64_in _ (by omega)
      go_wp2_with fail
      apply wp_region_tail 26 13 (Eqs _ :: Eqs _ :: Eqs _ :: Eqs _ :: Eqs _ :: Eqs _ :: Eqs _ :: Eqs _ :: Eqs _ :: Eqs _ :: Eqs _ :: Eqs _ :: (SliW 0 1 1 #[.int .i64 z, U v] 131) :: []) rfl (by kernel_rfl) (by rfl) (stab_cons (stab_eq _) (stab_cons (stab_eq _) (stab_cons (stab_eq _) (stab_cons (stab_eq _) (stab_cons (stab_eq _) (stab_cons (stab_eq _) (stab_cons (stab_eq _) (stab_cons (stab_eq _) (stab_cons (stab_eq _) (stab_cons (stab_eq _) (stab_cons (stab_eq _) (stab_cons (stab_eq _) (stab_cons stab_sliW stab_nil))))))))))))) (by kernel_rfl) (by kernel_rfl) (by kernel_rfl) (by kernel_rfl)
      case hstep =>
        simp only [List.take_succ_cons, List.take_zero]
        refine StepsOK.cons ?_ ?_
        · -- 0: Go.Op.move (Go.Operand.tmp 3)
          intro a w1 hR1 hF hU hsz
          have e3 : a.eval (.tmp 3) = _ := hU 3 (by kernel_rfl)
          rw [if_pos (by rfl)]
          intro K hK
          clear hF hU hsz
          obtain ⟨q1, q2, q3⟩ := eval_rest a
          generalize hρ : a.eval = ρ
          rw [hρ] at q1 q2 q3 e3
          clear hρ
          have u1 := OpUp_value Try.prog K
          have u2 := OpUp_enter Try.prog K
          go_simp
          exact hK _ _ (Stood.refl _) rfl
        refine StepsOK.cons ?_ ?_
        · -- 1: Go.Op.move (Go.Operand.tmp 0)
          intro a w1 hR1 hF hU hsz
          have e0 : a.eval (.tmp 0) = _ := hU 0 (by kernel_rfl)
          rw [if_pos (by rfl)]
          intro K hK
          clear hF hU hsz
          obtain ⟨q1, q2, q3⟩ := eval_rest a
          generalize hρ : a.eval = ρ
          rw [hρ] at q1 q2 q3 e0
          clear hρ
          have u1 := OpUp_value Try.prog K
          have u2 := OpUp_enter Try.prog K
          go_simp
          exact hK _ _ (Stood.refl _) rfl
        refine StepsOK.cons ?_ ?_
        · -- 2: Go.Op.move (Go.Operand.tmp 4)
          intro a w1 hR1 hF hU hsz
          have e4 : a.eval (.tmp 4) = _ := hU 4 (by kernel_rfl)
          rw [if_pos (by rfl)]
          intro K hK
          clear hF hU hsz
          obtain ⟨q1, q2, q3⟩ := eval_rest a
          generalize hρ : a.eval = ρ
          rw [hρ] at q1 q2 q3 e4
          clear hρ
          have u1 := OpUp_value Try.prog K
          have u2 := OpUp_enter Try.prog K
          go_simp
          exact hK _ _ (Stood.refl _) rfl
        refine StepsOK.cons ?_ ?_
        · -- 3: Go.Op.indexAddr 23 (Go.Operand.tmp 12) (Go.Operand.tmp 13)
          intro a w1 hR1 hF hU hsz
          have e12 : a.eval (.tmp 12) = _ := hF 1 _ _ rfl rfl (by kernel_rfl)
          have e13 : a.eval (.tmp 13) = _ := hF 2 _ _ rfl rfl (by kernel_rfl)
          rw [if_pos (by rfl)]
          intro K hK
          clear hF hU hsz
          obtain ⟨q1, q2, q3⟩ := eval_rest a
          generalize hρ : a.eval = ρ
          rw [hρ] at q1 q2 q3 e12 e13
          clear hρ
          have u1 := OpUp_value Try.prog K
          have u2 := OpUp_enter Try.prog K
          go_simp
          exact hK _ _ (Stood.refl _) rfl
        refine StepsOK.cons ?_ ?_
        · -- 4: Go.Op.fieldAddr 59 (Go.Operand.tmp 14) 0
          intro a w1 hR1 hF hU hsz
          have e14 : a.eval (.tmp 14) = _ := hF 3 _ _ rfl rfl (by kernel_rfl)
          rw [if_pos (by rfl)]
          intro K hK
          clear hF hU hsz
          obtain ⟨q1, q2, q3⟩ := eval_rest a
          generalize hρ : a.eval = ρ
          rw [hρ] at q1 q2 q3 e14
          clear hρ
          have u1 := OpUp_value Try.prog K
          have u2 := OpUp_enter Try.prog K
          go_simp
          exact hK _ _ (Stood.refl _) rfl
        refine StepsOK.cons ?_ ?_
        · -- 5: Go.Op.load 3 (Go.Operand.tmp 15)
          intro a w1 hR1 hF hU hsz
          have e15 : a.eval (.tmp 15) = _ := hF 4 _ _ rfl rfl (by kernel_rfl)
          rw [if_pos (by rfl)]
          intro K hK
          clear hF hU hsz
          have hz1 := ((Stood.cur hR1).cell (p := ⟨lb, lo + k * 2, none⟩) (cell_lt hk1)).trans hk1
          obtain ⟨q1, q2, q3⟩ := eval_rest a
          generalize hρ : a.eval = ρ
          rw [hρ] at q1 q2 q3 e15
          clear hρ
          have u1 := OpUp_value Try.prog K
          have u2 := OpUp_enter Try.prog K
          go_simp
          exact hK _ _ (Stood.refl _) rfl
        refine StepsOK.cons ?_ ?_
        · -- 6: Go.Op.move (Go.Operand.tmp 0)
          intro a w1 hR1 hF hU hsz
          have e0 : a.eval (.tmp 0) = _ := hU 0 (by kernel_rfl)
          rw [if_pos (by rfl)]
          intro K hK
          clear hF hU hsz
          obtain ⟨q1, q2, q3⟩ := eval_rest a
          generalize hρ : a.eval = ρ
          rw [hρ] at q1 q2 q3 e0
          clear hρ
          have u1 := OpUp_value Try.prog K
          have u2 := OpUp_enter Try.prog K
          go_simp
          exact hK _ _ (Stood.refl _) rfl
        refine StepsOK.cons ?_ ?_
        · -- 7: Go.Op.move (Go.Operand.tmp 4)
          intro a w1 hR1 hF hU hsz
          have e4 : a.eval (.tmp 4) = _ := hU 4 (by kernel_rfl)
          rw [if_pos (by rfl)]
          intro K hK
          clear hF hU hsz
          obtain ⟨q1, q2, q3⟩ := eval_rest a
          generalize hρ : a.eval = ρ
          rw [hρ] at q1 q2 q3 e4
          clear hρ
          have u1 := OpUp_value Try.prog K
          have u2 := OpUp_enter Try.prog K
          go_simp
          exact hK _ _ (Stood.refl _) rfl
        refine StepsOK.cons ?_ ?_
        · -- 8: Go.Op.indexAddr 23 (Go.Operand.tmp 17) (Go.Operand.tmp 18)
          intro a w1 hR1 hF hU hsz
          have e17 : a.eval (.tmp 17) = _ := hF 6 _ _ rfl rfl (by kernel_rfl)
          have e18 : a.eval (.tmp 18) = _ := hF 7 _ _ rfl rfl (by kernel_rfl)
          rw [if_pos (by rfl)]
          intro K hK
          clear hF hU hsz
          obtain ⟨q1, q2, q3⟩ := eval_rest a
          generalize hρ : a.eval = ρ
          rw [hρ] at q1 q2 q3 e17 e18
          clear hρ
          have u1 := OpUp_value Try.prog K
          have u2 := OpUp_enter Try.prog K
          go_simp
          exact hK _ _ (Stood.refl _) rfl
        refine StepsOK.cons ?_ ?_
        · -- 9: Go.Op.fieldAddr 59 (Go.Operand.tmp 19) 1
          intro a w1 hR1 hF hU hsz
          have e19 : a.eval (.tmp 19) = _ := hF 8 _ _ rfl rfl (by kernel_rfl)
          rw [if_pos (by rfl)]
          intro K hK
          clear hF hU hsz
          obtain ⟨q1, q2, q3⟩ := eval_rest a
          generalize hρ : a.eval = ρ
          rw [hρ] at q1 q2 q3 e19
          clear hρ
          have u1 := OpUp_value Try.prog K
          have u2 := OpUp_enter Try.prog K
          go_simp
          exact hK _ _ (Stood.refl _) rfl
        refine StepsOK.cons ?_ ?_
        · -- 10: Go.Op.load 22 (Go.Operand.tmp 20)
          intro a w1 hR1 hF hU hsz
          have e20 : a.eval (.tmp 20) = _ := hF 9 _ _ rfl rfl (by kernel_rfl)
          rw [if_pos (by rfl)]
          intro K hK
          clear hF hU hsz
          have hz1 := ((Stood.cur hR1).cell (p := ⟨lb, lo + k * 2 + 1, none⟩) (cell_lt hk2)).trans hk2
          obtain ⟨q1, q2, q3⟩ := eval_rest a
          generalize hρ : a.eval = ρ
          rw [hρ] at q1 q2 q3 e20
          clear hρ
          have u1 := OpUp_value Try.prog K
          have u2 := OpUp_enter Try.prog K
          go_simp
          exact hK _ _ (Stood.refl _) rfl
        refine StepsOK.cons ?_ ?_
        · -- 11: Go.Op.build 70 #[(0, Go.Operand.tmp 16), (1, Go.Operand.tmp 21)]
          intro a w1 hR1 hF hU hsz
          have e16 : a.eval (.tmp 16) = _ := hF 5 _ _ rfl rfl (by kernel_rfl)
          have e21 : a.eval (.tmp 21) = _ := hF 10 _ _ rfl rfl (by kernel_rfl)
          rw [if_pos (by rfl)]
          intro K hK
          clear hF hU hsz
          obtain ⟨q1, q2, q3⟩ := eval_rest a
          generalize hρ : a.eval = ρ
          rw [hρ] at q1 q2 q3 e16 e21
          clear hρ
          have u1 := OpUp_value Try.prog K
          have u2 := OpUp_enter Try.prog K
          go_simp
          exact hK _ _ (Stood.refl _) rfl
        refine StepsOK.cons ?_ ?_
        · -- 12: Go.Op.buildSlice 64 1 #[(0, Go.Operand.tmp 22)]
          intro a w1 hR1 hF hU hsz
          have e22 : a.eval (.tmp 22) = _ := hF 11 _ _ rfl rfl (by kernel_rfl)
          rw [if_pos (by rfl)]
          intro K hK
          clear hF hU hsz
          obtain ⟨q1, q2, q3⟩ := eval_rest a
          generalize hρ : a.eval = ρ
          rw [hρ] at q1 q2 q3 e22
          clear hρ
          have u1 := OpUp_value Try.prog K
          have u2 := OpUp_enter Try.prog K
          go_simp
          exact hK _ _ ((Below.refl _ _).alloc (Nat.le_refl _) _) ⟨_, rfl, Nat.zero_le _, heap_alloc_new w1 _⟩
        exact StepsOK.nil
      case hend =>
        intro vs0 w1 hR1 hH0
        obtain ⟨vs1, rfl, hH1⟩ := hH0.eq_
        obtain ⟨vs2, rfl, hH2⟩ := hH1.eq_
        obtain ⟨vs3, rfl, hH3⟩ := hH2.eq_
        obtain ⟨vs4, rfl, hH4⟩ := hH3.eq_
        obtain ⟨vs5, rfl, hH5⟩ := hH4.eq_
        obtain ⟨vs6, rfl, hH6⟩ := hH5.eq_
        obtain ⟨vs7, rfl, hH7⟩ := hH6.eq_
        obtain ⟨vs8, rfl, hH8⟩ := hH7.eq_
        obtain ⟨vs9, rfl, hH9⟩ := hH8.eq_
        obtain ⟨vs10, rfl, hH10⟩ := hH9.eq_
        obtain ⟨vs11, rfl, hH11⟩ := hH10.eq_
        obtain ⟨vs12, rfl, hH12⟩ := hH11.eq_
        obtain ⟨v12, vs13, rfl, hv12, hH13⟩ := hH12.cons
        obtain rfl := hH13.nil
        clear hH0 hH1 hH2 hH3 hH4 hH5 hH6 hH7 hH8 hH9 hH10 hH11 hH12 hH13
        simp only [List.take_succ_cons, List.take_zero, putAll, Act.put, List.setIfInBounds_toArray, List.set_cons_zero, List.set_cons_succ]
        obtain ⟨q, rfl, hq1, hq2⟩ := hv12
        have HO1 := Lib.hid (HO.out.below (Stood.cur hR1))
        have HB1 := Lib.hid (HB.out.trans ((Stood.cur hR1).mono HB.out.size))
        have hrd := RdW.of_heap hq2
        have hbs := HB1.out.size
        refine stop_ ?_
        refine appW 83 131 Try.underlying83 infoLw (.tmp 11) (.tmp 23) rfl rfl w.heap.size B (ws.take k) _ d rfl HTL.out.symm HO1.out (some ⟨q, 0, none⟩) [(z, v)] 1 1 rfl rfl hrd (by rw [HTL.out]; simp; omega) (by omega) ?_
        intro B2 us d2 w5 hus hown2 hg2 _
        have HU := Lib.hid (show us = ws.take (k + 1) by rw [hus, HT.out])
        have hul : us.length = k + 1 := by rw [HU.out, List.length_take]; omega
        have HO4 := Lib.hid hown2
        have HB4 := Lib.hid (below_appW HB1.out HO1.out hg2 (by omega) (Nat.le_refl _))
        clear hus hg2 hown2 hrd hbs hq1 hq2 hR1
        unfold Stop
        go_wp2
        go_roundw
        case rel => exact ⟨k + 1, B2, d2, hlt, by go_num, rfl, by rw [← HU.out]; exact HO4.out, HB4.out⟩
        case measure => simp [intOf]; omega
    · obtain rfl : k = ws.length := by omega
      rw [List.take_length] at HO
      go_wp2
      go_ret
      exact ⟨⟨B, d, rfl, HO.out.rd, fun q hq => (OwnW.lt HO.out q hq).1⟩, HB.out⟩
theorem writes_any (ws : List (Int × BitVec 64)) (L : Option Addr) (lc : Nat) (w : World) (hl : RdW w L ws) (hn : ws.length ≤ 1000) :
    Calls Try.prog 68 #[.slice L ws.length lc] w fun e w' => (∃ B d, e = .returned (.slice B ws.length d) ∧ RdW w' B ws) ∧ Below w.heap.size w w' :=
  (writesF_any ws L lc w hl hn).mono fun _ _ ⟨⟨B, d, h1, h2, _⟩, h3⟩ => ⟨⟨B, d, h1, h2⟩, h3⟩
theorem equalIn_U (p q : BitVec 64) (w : World) : Sem.run Try.prog (Op.equalIn 9999 22 (U p) (U q)) w = .ok (p == q) w := by
  have h : ((p.toNat : Int) == (q.toNat : Int)) = (p == q) := by
    rw [Bool.eq_iff_iff, beq_iff_eq, beq_iff_eq, Int.ofNat_inj]
    exact BitVec.toNat_inj
  show Sem.run _ (Op.equalIn 9999 22 (.int .u64 (p.toNat : Int)) (.int .u64 (q.toNat : Int))) w = _
  rw [← h]
  go_simp
set_option maxRecDepth 100000 in
set_option maxHeartbeats 4000000 in
theorem equalW_any (xs ys : List (Int × BitVec 64)) (A B : Option Addr) (c d : Nat) (w : World) (hx : RdW w A xs) (hy : RdW w B ys) (hn : xs.length ≤ 1000) (hn2 : ys.length ≤ 1000) :
    Calls Try.prog 70 #[.slice A xs.length c, .slice B ys.length d] w fun e w' => e = .returned (.bool (xs == ys)) ∧ Drawn w w' := by
  by_cases hl : xs.length = ys.length
  · have HX := Lib.hid hx
    have HY := Lib.hid hy
    have HL := Lib.hid hl
    rw [← hl]
    have hnn : ((xs.length : Int) != (xs.length : Int)) = false := by simp
    clear hx hy hl
    go_enter Try.func70, Try.ntmps70
    go_wp2
    go_loopw [5] (fun i wr => ∃ k : Nat, k ≤ xs.length ∧ i = .int .i64 k ∧ xs.take k = ys.take k ∧ Drawn w wr) (fun i _ => xs.length - (intOf i).toNat)
    case atStart => exact ⟨0, Nat.zero_le _, rfl, rfl, Drawn.refl _⟩
    case round =>
      obtain ⟨k, hk, rfl, ht, hd⟩ := hrel
      have HT := Lib.hid ht
      have HD := Lib.hid hd
      clear ht hd
      by_cases hlt : k < xs.length
      · obtain ⟨b, off, rfl, hc⟩ := (HX.out.below (HD.out.below _)).at_ hlt
        have hlt2 : k < ys.length := by rw [← HL.out]; exact hlt
        obtain ⟨b2, off2, rfl, hc2⟩ := (HY.out.below (HD.out.below _)).at_ hlt2
        obtain ⟨h1, h1'⟩ := hc k hlt
        obtain ⟨h2, h2'⟩ := hc2 k hlt2
        have HTS := Lib.hid (fun he => take_succ_w15 xs ys k hlt hlt2 HT.out he)
        have HNE := Lib.hid (fun (he : ¬ xs[k] = ys[k]) => show (xs == ys) = false by
          rw [beq_eq_false_iff_ne]; intro h; exact he (by subst h; rfl))
        clear hc hc2
        generalize xs[k] = x at *
        generalize ys[k] = y at *
        obtain ⟨z1, u1⟩ := x
        obtain ⟨z2, u2⟩ := y
        simp only at h1 h1' h2 h2'
        have hqu := fun W => equalIn_U u1 u2 W
        go_wp2
        by_cases hz : z1 = z2
        · subst hz
          by_cases hu : u1 = u2
          · subst hu
            have hbe : (u1 == u1) = true := beq_self_eq_true _
            have HT2 := Lib.hid (HTS.out rfl)
            go_quiet (fail)
            go_wp2
            go_roundw
            case rel => exact ⟨k + 1, by omega, by go_num, HT2.out, HD.out.trans (Drawn.some_ _ _)⟩
            case measure => simp [intOf]; omega
          · have hbe : (u1 == u2) = false := by rw [beq_eq_false_iff_ne]; exact hu
            have HF := Lib.hid (HNE.out (by intro h; injection h with _ h; exact hu h))
            clear hu
            go_quiet (fail)
            go_wp2
            go_ret
            exact ⟨ret_bool HF.out.symm, HD.out.trans (Drawn.some_ _ _)⟩
        · have hbe : (z1 == z2) = false := by rw [beq_eq_false_iff_ne]; exact hz
          have HF := Lib.hid (HNE.out (by intro h; injection h with h _; exact hz h))
          go_quiet (fail)
          go_wp2
          go_ret
          exact ⟨ret_bool HF.out.symm, HD.out.trans (Drawn.some_ _ _)⟩
      · have HF := Lib.hid (show (xs == ys) = true by
          have h := HT.out
          have hle := HL.out
          rw [List.take_of_length_le (by omega), List.take_of_length_le (by omega)] at h
          rw [h]; exact beq_self_eq_true _)
        go_wp2
        go_ret
        exact ⟨ret_bool HF.out.symm, HD.out⟩
  · have hne : ((xs.length : Int) != (ys.length : Int)) = true := by rw [bne_iff_ne]; omega
    have HF := Lib.hid (show (xs == ys) = false by
      rw [beq_eq_false_iff_ne]; intro h; exact hl (by rw [h]))
    clear hl hx hy
    go_enter Try.func70, Try.ntmps70
    go_wp2
    go_ret
    exact ⟨ret_bool HF.out.symm, Drawn.refl _⟩
end Go.Proofs.Ytoifejinppjeeaa
