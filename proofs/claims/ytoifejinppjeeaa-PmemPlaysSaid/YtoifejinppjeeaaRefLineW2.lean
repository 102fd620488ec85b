/- The walks of the reference's line: settle, Fall, Fence, Flush, NewLine. Conditions: those of RefAt; each open store stands in the line. -/
import Derived.Test.YtoifejinppjeeaaRefLineW
namespace Go.Proofs.Ytoifejinppjeeaa
open Go.RowKit
set_option linter.unusedVariables false
set_option linter.unusedSimpArgs false
theorem OwnU.empty (w : World) (base : Nat) (hb : base ≤ w.heap.size) : OwnU (w.alloc (.cells #[] 22)) base (some ⟨w.heap.size, 0, none⟩) [] 0 :=
  World.ownsRow_lit (e := 22) (size := 1) (base := base) w #[] 0 hb (by unfold maxLen; omega) rfl
set_option maxRecDepth 100000 in
set_option maxHeartbeats 4000000 in
theorem rSettle_any (y : Nat) (ss : List (BitVec 64)) (os : List St) (n : Nat) (S O : Option Addr) (sc oc : Nat) (N : Int) (w : World) (h : RefAt w y ss (mk os n) S sc O oc) (hl : os.length ≤ 1000) (hv : okS os) :
    Calls Try.prog 104 #[.pointer (some ⟨y, 0, none⟩), .int .i64 N] w fun e w' => e = .returned (.tuple #[]) ∧
      (∃ S' sc', RefAt w' y (doW ss (os.take N.toNat)) (mk os n) S' sc' O oc ∧ ∀ q, blk S' = some q → w.heap.size ≤ q) ∧ Fr w w' y none := by
  have HA := Lib.hid h
  have HV := Lib.hid hv
  have hb1 : Below w.heap.size w (w.alloc (.cells #[] 22)) := (Below.refl _ _).alloc (Nat.le_refl _) _
  have hc0 := (HA.out.below hb1).c0
  clear h hv
  go_enter Try.func104, Try.ntmps104
  go_wp2_with (first | go_skip | (at_builtin; refine stop_ ?_))
  refine appU (.tmp 6) (.tmp 10) rfl rfl w.heap.size (some ⟨w.heap.size, 0, none⟩) [] 0 0 rfl rfl (OwnU.empty w _ (Nat.le_refl _)) S ss _ sc rfl HA.out.len.symm (HA.out.below hb1).sure (by rw [HA.out.len]; simp) (by simp) ?_
  intro A2 us c2 w2 hus hown2 hg2 hnew
  obtain rfl : us = ss := by simpa using hus
  have HB2 := Lib.hid (hb1.grown hg2 (by simp) (fun k hk => by cases hk; exact Nat.le_refl _))
  have hl8 := HA.out.len
  obtain ⟨g, rfl, hg1, hg3⟩ := hown2.form (by omega)
  have HO2 := Lib.hid hown2
  have HC2 := Lib.hid hown2.cap
  clear hus hown2 hg2 hnew hb1 hc0
  have HL8 := Lib.hid hl8
  rw [hl8] at HC2 ⊢
  clear hl8
  unfold Stop
  go_wp2
  go_loopw [5] (fun i wr => ∃ k : Nat, k ≤ os.length ∧ i = .int .i64 k ∧ ((k : Int) ≤ max 0 N) ∧ OwnU wr w.heap.size (some ⟨g, 0, none⟩) (doW us (os.take k)) c2 ∧ Below w.heap.size w wr) (fun i _ => os.length - (intOf i).toNat)
  case atStart => exact ⟨0, Nat.zero_le _, rfl, Int.le_max_left _ _, HO2.out, HB2.out⟩
  case round =>
    clear HO2 HB2
    obtain ⟨k, hk, rfl, hN, hO, hB⟩ := hrel
    have HO := Lib.hid hO
    have HB := Lib.hid hB
    have HR := Lib.hid (HA.out.below hB)
    have hc1 := HR.out.c1
    have hylt := HR.out.lt
    rw [mk_len] at hc1
    have e0 : IntKind.i64.wrap ((k : Int) + 1) = (k : Int) + 1 := IntWalk.i64_in _ (by omega)
    clear hO hB
    by_cases h1 : (k : Int) < N
    · by_cases h2 : k < os.length
      · obtain ⟨lb, lo, rfl, hlc⟩ := HR.out.opn.at_ (show k < (mk os n).length by rw [mk_len]; exact h2)
        obtain ⟨hk1, hk2, _⟩ := hlc k (by rw [mk_len]; exact h2)
        rw [mk_get os n k h2] at hk1 hk2
        have hbd := HV.out (os[k]) (List.getElem_mem _)
        have HT := Lib.hid (doW_take us os k h2)
        clear hlc
        generalize os[k] = zv at *
        obtain ⟨z, v⟩ := zv
        simp only at hbd hk1 hk2
        obtain ⟨m, rfl⟩ := Int.eq_ofNat_of_zero_le hbd.1
        have hm8 : m < 8 := by omega
        have hmi : (m : Int) < 8 := hbd.2
        have hdl : (doW us (os.take k)).length = 8 := by rw [doW_len]; exact HL8.out
        have HT2 := Lib.hid (show doW us (os.take (k + 1)) = (doW us (os.take k)).set m v by
          rw [HT.out]
          unfold doOne
          rw [if_pos (by rw [hdl]; exact hbd), Int.toNat_natCast])
        have HDL := Lib.hid hdl
        clear hbd HT hdl
        go_wp2_with fail
        apply wp_region_last 48 (Eqs _ :: Eqs _ :: Eqs _ :: Eqs _ :: Eqs _ :: Eqs _ :: Eqs _ :: Eqs _ :: Eqs _ :: Eqs _ :: Eqs _ :: Eqs _ :: Eqs _ :: Eqs _ :: Eqs _ :: Eqs _ :: Eqs _ :: Eqs _ :: []) rfl (by kernel_rfl) (by rfl) (stab_cons (stab_eq _) (stab_cons (stab_eq _) (stab_cons (stab_eq _) (stab_cons (stab_eq _) (stab_cons (stab_eq _) (stab_cons (stab_eq _) (stab_cons (stab_eq _) (stab_cons (stab_eq _) (stab_cons (stab_eq _) (stab_cons (stab_eq _) (stab_cons (stab_eq _) (stab_cons (stab_eq _) (stab_cons (stab_eq _) (stab_cons (stab_eq _) (stab_cons (stab_eq _) (stab_cons (stab_eq _) (stab_cons (stab_eq _) (stab_cons (stab_eq _) stab_nil)))))))))))))))))) (by kernel_rfl) (by kernel_rfl) (by kernel_rfl)
        case hstep =>
          simp only [List.dropLast_cons_cons, List.dropLast_singleton]
          refine StepsOK.cons ?_ ?_
          · -- 0: Go.Op.move (Go.Operand.tmp 4)
            intro a w1 hR1 hF hU hsz
            have e4 : a.eval (.tmp 4) = _ := hU 4 (by kernel_rfl)
            rw [if_pos (by rfl)]
            intro K hK
            clear hF hU hsz
            obtain ⟨q1, q2, q3⟩ := eval_rest a
            generalize hρ : a.eval = ρ
            rw [hρ] at q1 q2 q3 e4
            clear hρ
            have u1 := OpUp_value Try.prog K
            have u2 := OpUp_enter Try.prog K
            go_simp
            exact hK _ _ (Stood.refl _) rfl
          refine StepsOK.cons ?_ ?_
          · -- 1: Go.Op.move (Go.Operand.tmp 0)
            intro a w1 hR1 hF hU hsz
            have e0 : a.eval (.tmp 0) = _ := hU 0 (by kernel_rfl)
            rw [if_pos (by rfl)]
            intro K hK
            clear hF hU hsz
            obtain ⟨q1, q2, q3⟩ := eval_rest a
            generalize hρ : a.eval = ρ
            rw [hρ] at q1 q2 q3 e0
            clear hρ
            have u1 := OpUp_value Try.prog K
            have u2 := OpUp_enter Try.prog K
            go_simp
            exact hK _ _ (Stood.refl _) rfl
          refine StepsOK.cons ?_ ?_
          · -- 2: Go.Op.nilCheck (Go.Operand.tmp 27)
            intro a w1 hR1 hF hU hsz
            have e27 : a.eval (.tmp 27) = _ := hF 1 _ _ rfl rfl (by kernel_rfl)
            rw [if_pos (by rfl)]
            intro K hK
            clear hF hU hsz
            obtain ⟨q1, q2, q3⟩ := eval_rest a
            generalize hρ : a.eval = ρ
            rw [hρ] at q1 q2 q3 e27
            clear hρ
            have u1 := OpUp_value Try.prog K
            have u2 := OpUp_enter Try.prog K
            go_simp
            exact hK _ _ (Stood.refl _) rfl
          refine StepsOK.cons ?_ ?_
          · -- 3: Go.Op.fieldAddr 40 (Go.Operand.tmp 28) 1
            intro a w1 hR1 hF hU hsz
            have e28 : a.eval (.tmp 28) = _ := hF 2 _ _ rfl rfl (by kernel_rfl)
            rw [if_pos (by rfl)]
            intro K hK
            clear hF hU hsz
            obtain ⟨q1, q2, q3⟩ := eval_rest a
            generalize hρ : a.eval = ρ
            rw [hρ] at q1 q2 q3 e28
            clear hρ
            have u1 := OpUp_value Try.prog K
            have u2 := OpUp_enter Try.prog K
            go_simp
            exact hK _ _ (Stood.refl _) rfl
          refine StepsOK.cons ?_ ?_
          · -- 4: Go.Op.load 38 (Go.Operand.tmp 29)
            intro a w1 hR1 hF hU hsz
            have e29 : a.eval (.tmp 29) = _ := hF 3 _ _ rfl rfl (by kernel_rfl)
            rw [if_pos (by rfl)]
            intro K hK
            clear hF hU hsz
            have hy1 := ((Stood.cur hR1).cell (p := ⟨y, 1, none⟩) hylt).trans hc1
            obtain ⟨q1, q2, q3⟩ := eval_rest a
            generalize hρ : a.eval = ρ
            rw [hρ] at q1 q2 q3 e29
            clear hρ
            have u1 := OpUp_value Try.prog K
            have u2 := OpUp_enter Try.prog K
            go_simp
            exact hK _ _ (Stood.refl _) rfl
          refine StepsOK.cons ?_ ?_
          · -- 5: Go.Op.move (Go.Operand.tmp 5)
            intro a w1 hR1 hF hU hsz
            have e5 : a.eval (.tmp 5) = _ := hU 5 (by kernel_rfl)
            rw [if_pos (by rfl)]
            intro K hK
            clear hF hU hsz
            obtain ⟨q1, q2, q3⟩ := eval_rest a
            generalize hρ : a.eval = ρ
            rw [hρ] at q1 q2 q3 e5
            clear hρ
            have u1 := OpUp_value Try.prog K
            have u2 := OpUp_enter Try.prog K
            go_simp
            exact hK _ _ (Stood.refl _) rfl
          refine StepsOK.cons ?_ ?_
          · -- 6: Go.Op.indexAddr 38 (Go.Operand.tmp 30) (Go.Operand.tmp 31)
            intro a w1 hR1 hF hU hsz
            have e30 : a.eval (.tmp 30) = _ := hF 4 _ _ rfl rfl (by kernel_rfl)
            have e31 : a.eval (.tmp 31) = _ := hF 5 _ _ rfl rfl (by kernel_rfl)
            rw [if_pos (by rfl)]
            intro K hK
            clear hF hU hsz
            obtain ⟨q1, q2, q3⟩ := eval_rest a
            generalize hρ : a.eval = ρ
            rw [hρ] at q1 q2 q3 e30 e31
            clear hρ
            have u1 := OpUp_value Try.prog K
            have u2 := OpUp_enter Try.prog K
            go_simp
            exact hK _ _ (Stood.refl _) rfl
          refine StepsOK.cons ?_ ?_
          · -- 7: Go.Op.fieldAddr 88 (Go.Operand.tmp 32) 0
            intro a w1 hR1 hF hU hsz
            have e32 : a.eval (.tmp 32) = _ := hF 6 _ _ rfl rfl (by kernel_rfl)
            rw [if_pos (by rfl)]
            intro K hK
            clear hF hU hsz
            obtain ⟨q1, q2, q3⟩ := eval_rest a
            generalize hρ : a.eval = ρ
            rw [hρ] at q1 q2 q3 e32
            clear hρ
            have u1 := OpUp_value Try.prog K
            have u2 := OpUp_enter Try.prog K
            go_simp
            exact hK _ _ (Stood.refl _) rfl
          refine StepsOK.cons ?_ ?_
          · -- 8: Go.Op.load 3 (Go.Operand.tmp 33)
            intro a w1 hR1 hF hU hsz
            have e33 : a.eval (.tmp 33) = _ := hF 7 _ _ rfl rfl (by kernel_rfl)
            rw [if_pos (by rfl)]
            intro K hK
            clear hF hU hsz
            have hz1 := ((Stood.cur hR1).cell (p := ⟨lb, lo + k * 3, none⟩) (cell_lt hk1)).trans hk1
            obtain ⟨q1, q2, q3⟩ := eval_rest a
            generalize hρ : a.eval = ρ
            rw [hρ] at q1 q2 q3 e33
            clear hρ
            have u1 := OpUp_value Try.prog K
            have u2 := OpUp_enter Try.prog K
            go_simp
            exact hK _ _ (Stood.refl _) rfl
          refine StepsOK.cons ?_ ?_
          · -- 9: Go.Op.move (Go.Operand.tmp 0)
            intro a w1 hR1 hF hU hsz
            have e0 : a.eval (.tmp 0) = _ := hU 0 (by kernel_rfl)
            rw [if_pos (by rfl)]
            intro K hK
            clear hF hU hsz
            obtain ⟨q1, q2, q3⟩ := eval_rest a
            generalize hρ : a.eval = ρ
            rw [hρ] at q1 q2 q3 e0
            clear hρ
            have u1 := OpUp_value Try.prog K
            have u2 := OpUp_enter Try.prog K
            go_simp
            exact hK _ _ (Stood.refl _) rfl
          refine StepsOK.cons ?_ ?_
          · -- 10: Go.Op.nilCheck (Go.Operand.tmp 35)
            intro a w1 hR1 hF hU hsz
            have e35 : a.eval (.tmp 35) = _ := hF 9 _ _ rfl rfl (by kernel_rfl)
            rw [if_pos (by rfl)]
            intro K hK
            clear hF hU hsz
            obtain ⟨q1, q2, q3⟩ := eval_rest a
            generalize hρ : a.eval = ρ
            rw [hρ] at q1 q2 q3 e35
            clear hρ
            have u1 := OpUp_value Try.prog K
            have u2 := OpUp_enter Try.prog K
            go_simp
            exact hK _ _ (Stood.refl _) rfl
          refine StepsOK.cons ?_ ?_
          · -- 11: Go.Op.fieldAddr 40 (Go.Operand.tmp 36) 1
            intro a w1 hR1 hF hU hsz
            have e36 : a.eval (.tmp 36) = _ := hF 10 _ _ rfl rfl (by kernel_rfl)
            rw [if_pos (by rfl)]
            intro K hK
            clear hF hU hsz
            obtain ⟨q1, q2, q3⟩ := eval_rest a
            generalize hρ : a.eval = ρ
            rw [hρ] at q1 q2 q3 e36
            clear hρ
            have u1 := OpUp_value Try.prog K
            have u2 := OpUp_enter Try.prog K
            go_simp
            exact hK _ _ (Stood.refl _) rfl
          refine StepsOK.cons ?_ ?_
          · -- 12: Go.Op.load 38 (Go.Operand.tmp 37)
            intro a w1 hR1 hF hU hsz
            have e37 : a.eval (.tmp 37) = _ := hF 11 _ _ rfl rfl (by kernel_rfl)
            rw [if_pos (by rfl)]
            intro K hK
            clear hF hU hsz
            have hy1 := ((Stood.cur hR1).cell (p := ⟨y, 1, none⟩) hylt).trans hc1
            obtain ⟨q1, q2, q3⟩ := eval_rest a
            generalize hρ : a.eval = ρ
            rw [hρ] at q1 q2 q3 e37
            clear hρ
            have u1 := OpUp_value Try.prog K
            have u2 := OpUp_enter Try.prog K
            go_simp
            exact hK _ _ (Stood.refl _) rfl
          refine StepsOK.cons ?_ ?_
          · -- 13: Go.Op.move (Go.Operand.tmp 5)
            intro a w1 hR1 hF hU hsz
            have e5 : a.eval (.tmp 5) = _ := hU 5 (by kernel_rfl)
            rw [if_pos (by rfl)]
            intro K hK
            clear hF hU hsz
            obtain ⟨q1, q2, q3⟩ := eval_rest a
            generalize hρ : a.eval = ρ
            rw [hρ] at q1 q2 q3 e5
            clear hρ
            have u1 := OpUp_value Try.prog K
            have u2 := OpUp_enter Try.prog K
            go_simp
            exact hK _ _ (Stood.refl _) rfl
          refine StepsOK.cons ?_ ?_
          · -- 14: Go.Op.indexAddr 38 (Go.Operand.tmp 38) (Go.Operand.tmp 39)
            intro a w1 hR1 hF hU hsz
            have e38 : a.eval (.tmp 38) = _ := hF 12 _ _ rfl rfl (by kernel_rfl)
            have e39 : a.eval (.tmp 39) = _ := hF 13 _ _ rfl rfl (by kernel_rfl)
            rw [if_pos (by rfl)]
            intro K hK
            clear hF hU hsz
            obtain ⟨q1, q2, q3⟩ := eval_rest a
            generalize hρ : a.eval = ρ
            rw [hρ] at q1 q2 q3 e38 e39
            clear hρ
            have u1 := OpUp_value Try.prog K
            have u2 := OpUp_enter Try.prog K
            go_simp
            exact hK _ _ (Stood.refl _) rfl
          refine StepsOK.cons ?_ ?_
          · -- 15: Go.Op.fieldAddr 88 (Go.Operand.tmp 40) 1
            intro a w1 hR1 hF hU hsz
            have e40 : a.eval (.tmp 40) = _ := hF 14 _ _ rfl rfl (by kernel_rfl)
            rw [if_pos (by rfl)]
            intro K hK
            clear hF hU hsz
            obtain ⟨q1, q2, q3⟩ := eval_rest a
            generalize hρ : a.eval = ρ
            rw [hρ] at q1 q2 q3 e40
            clear hρ
            have u1 := OpUp_value Try.prog K
            have u2 := OpUp_enter Try.prog K
            go_simp
            exact hK _ _ (Stood.refl _) rfl
          refine StepsOK.cons ?_ ?_
          · -- 16: Go.Op.load 25 (Go.Operand.tmp 41)
            intro a w1 hR1 hF hU hsz
            have e41 : a.eval (.tmp 41) = _ := hF 15 _ _ rfl rfl (by kernel_rfl)
            rw [if_pos (by rfl)]
            intro K hK
            clear hF hU hsz
            have hz1 := ((Stood.cur hR1).cell (p := ⟨lb, lo + k * 3 + 1, none⟩) (cell_lt hk2)).trans hk2
            obtain ⟨q1, q2, q3⟩ := eval_rest a
            generalize hρ : a.eval = ρ
            rw [hρ] at q1 q2 q3 e41
            clear hρ
            have u1 := OpUp_value Try.prog K
            have u2 := OpUp_enter Try.prog K
            go_simp
            exact hK _ _ (Stood.refl _) rfl
          refine StepsOK.cons ?_ ?_
          · -- 17: Go.Op.indexAddr 28 (Go.Operand.tmp 26) (Go.Operand.tmp 34)
            intro a w1 hR1 hF hU hsz
            have e26 : a.eval (.tmp 26) = _ := hF 0 _ _ rfl rfl (by kernel_rfl)
            have e34 : a.eval (.tmp 34) = _ := hF 8 _ _ rfl rfl (by kernel_rfl)
            rw [if_pos (by rfl)]
            intro K hK
            clear hF hU hsz
            obtain ⟨q1, q2, q3⟩ := eval_rest a
            generalize hρ : a.eval = ρ
            rw [hρ] at q1 q2 q3 e26 e34
            clear hρ
            have u1 := OpUp_value Try.prog K
            have u2 := OpUp_enter Try.prog K
            go_simp
            exact hK _ _ (Stood.refl _) rfl
          exact StepsOK.nil
        case hend =>
          intro vs0 w1 hR1 hH0
          obtain ⟨vs1, rfl, hH1⟩ := hH0.eq_
          obtain ⟨vs2, rfl, hH2⟩ := hH1.eq_
          obtain ⟨vs3, rfl, hH3⟩ := hH2.eq_
          obtain ⟨vs4, rfl, hH4⟩ := hH3.eq_
          obtain ⟨vs5, rfl, hH5⟩ := hH4.eq_
          obtain ⟨vs6, rfl, hH6⟩ := hH5.eq_
          obtain ⟨vs7, rfl, hH7⟩ := hH6.eq_
          obtain ⟨vs8, rfl, hH8⟩ := hH7.eq_
          obtain ⟨vs9, rfl, hH9⟩ := hH8.eq_
          obtain ⟨vs10, rfl, hH10⟩ := hH9.eq_
          obtain ⟨vs11, rfl, hH11⟩ := hH10.eq_
          obtain ⟨vs12, rfl, hH12⟩ := hH11.eq_
          obtain ⟨vs13, rfl, hH13⟩ := hH12.eq_
          obtain ⟨vs14, rfl, hH14⟩ := hH13.eq_
          obtain ⟨vs15, rfl, hH15⟩ := hH14.eq_
          obtain ⟨vs16, rfl, hH16⟩ := hH15.eq_
          obtain ⟨vs17, rfl, hH17⟩ := hH16.eq_
          obtain ⟨vs18, rfl, hH18⟩ := hH17.eq_
          obtain rfl := hH18.nil
          clear hH0 hH1 hH2 hH3 hH4 hH5 hH6 hH7 hH8 hH9 hH10 hH11 hH12 hH13 hH14 hH15 hH16 hH17 hH18
          simp only [List.dropLast_cons_cons, List.dropLast_singleton, putAll, Act.put, List.setIfInBounds_toArray, List.set_cons_zero, List.set_cons_succ]
          have HO1 := Lib.hid (HO.out.below (Stood.cur hR1))
          have HB1 := Lib.hid (HB.out.trans ((Stood.cur hR1).mono HB.out.size))
          have hcm := HO1.out.cellAt m (by rw [HDL.out]; exact hm8)
          have hfm := HO1.out.frozenAt m
          generalize (doW us (os.take k))[m]'_ = old at hcm
          have HN := Lib.hid (HO1.out.stored m v)
          have HN2 := Lib.hid (HB1.out.setCell (p := ⟨g, m, none⟩) hg1 (U v))
          clear HO1 HB1
          go_wp2
          go_roundw
          case rel => exact ⟨k + 1, by omega, by go_num, by omega, by rw [HT2.out]; exact HN.out, HN2.out⟩
          case measure => simp [intOf]; omega
      · obtain rfl : k = os.length := by omega
        have HT := Lib.hid (show os.take N.toNat = os by rw [List.take_of_length_le]; omega)
        rw [List.take_length] at HO
        have hc0 := HR.out.c0
        have hf0 := HR.out.fz 0
        have HN := Lib.hid (HR.out.setSure HO.out.rd (by rw [doW_len]; exact HL8.out) (fun e => by have := HA.out.lt; have e2 : g = y := Option.some.inj e; omega) HC2.out.1)
        have HF := Lib.hid (fr_set (y := y) (i := 0) (v := .slice (some ⟨g, 0, none⟩) 8 c2) HB.out)
        go_wp2
        go_end0
        first | exact ⟨rfl, ⟨some ⟨g, 0, none⟩, c2, (by rw [HT.out]; exact HN.out), (fun q hq => by cases hq; exact hg1)⟩, HF.out⟩ | exact ⟨rfl, ⟨some ⟨g, 0, none⟩, ⟨c2, by rw [HT.out]; exact HN.out⟩, fun q hq => by cases hq; exact hg1⟩, HF.out⟩
    · have HT := Lib.hid (show os.take N.toNat = os.take k by
        by_cases h0 : N < 0
        · rw [show N.toNat = 0 by omega, show k = 0 by omega]
        · rw [show N.toNat = k by omega])
      have hc0 := HR.out.c0
      have hf0 := HR.out.fz 0
      have HN := Lib.hid (HR.out.setSure HO.out.rd (by rw [doW_len]; exact HL8.out) (fun e => by have := HA.out.lt; have e2 : g = y := Option.some.inj e; omega) HC2.out.1)
      have HF := Lib.hid (fr_set (y := y) (i := 0) (v := .slice (some ⟨g, 0, none⟩) 8 c2) HB.out)
      go_wp2
      go_end0
      first | exact ⟨rfl, ⟨some ⟨g, 0, none⟩, c2, (by rw [HT.out]; exact HN.out), (fun q hq => by cases hq; exact hg1)⟩, HF.out⟩ | exact ⟨rfl, ⟨some ⟨g, 0, none⟩, ⟨c2, by rw [HT.out]; exact HN.out⟩, fun q hq => by cases hq; exact hg1⟩, HF.out⟩
theorem blk_add (p : Addr) (k : Nat) : (p.add k).block = p.block := by unfold Addr.add; split <;> rfl
theorem fence_end {w1 : World} {y n : Nat} {ss : List (BitVec 64)} {os : List St} {S O : Option Addr} {sc oc : Nat} (h : RefAt w1 y ss (mk os n) S sc O oc) :
    RefAt (w1.setCell ⟨y, 1, none⟩ (.slice (if oc = n then O else O.map (·.add (n * 3))) (os.length - n) (oc - n))) y ss (mk (os.drop n) 0) S sc (if oc = n then O else O.map (·.add (n * 3))) (oc - n) := by
  have hcap := h.cap
  rw [mk_len] at hcap
  have hb : blk (if oc = n then O else O.map (·.add (n * 3))) = blk O := by
    split
    · rfl
    · cases O with
      | none => rfl
      | some p => simp [blk, blk_add]
  have hr : RdR w1 (if oc = n then O else O.map (·.add (n * 3))) (mk (os.drop n) 0) := by
    rw [← mk_drop]
    split
    · left
      rw [List.drop_eq_nil_iff, mk_len]
      omega
    · exact h.opn.dropMap n
  have hm := h.setOpen (oc' := oc - n) hr (by rw [hb]; exact h.oy) (by rw [mk_len, List.length_drop]; omega) (by rw [hb]; exact h.olt)
  rw [mk_len, List.length_drop] at hm
  exact hm
theorem blk_end {n oc : Nat} {O : Option Addr} : ∀ q, blk (if oc = n then O else O.map (·.add (n * 3))) = some q → blk O = some q := by
  intro q h
  split at h
  · exact h
  · cases O with
    | none => cases h
    | some p => simpa [blk, blk_add] using h
theorem fr_set2 {w w1 : World} {y i : Nat} {v : Value} (hF : Fr w w1 y none) : Fr w (w1.setCell ⟨y, i, none⟩ v) y none :=
  ⟨hF.os, hF.tape, hF.output, by have := hF.size; simpa [World.setCell] using this, fun k hk h1 h2 => by
    rw [Below.heap_setCell _ _ _ _ (by simpa using h1), hF.block k hk h1 h2]⟩
theorem rFall_any (y : Nat) (ss : List (BitVec 64)) (os : List St) (n : Nat) (S O : Option Addr) (sc oc : Nat) (N : Int) (w : World) (h : RefAt w y ss (mk os n) S sc O oc) (hl : os.length ≤ 1000) (hv : okS os) :
    Calls Try.prog 91 #[.pointer (some ⟨y, 0, none⟩), .int .i64 N] w fun e w' => e = .returned (.tuple #[]) ∧
      (∃ S' sc', RefAt w' y (doW ss (os.take N.toNat)) [] S' sc' none 0 ∧ ∀ q, blk S' = some q → w.heap.size ≤ q) ∧ Fr w w' y none := by
  have KS := Lib.hid (rSettle_any y ss os n S O sc oc N w h hl hv)
  clear h hv
  go_enter Try.func91, Try.ntmps91
  go_wp2_with fail
  refine KS.out.mono ?_
  rintro e0 w1 ⟨rfl, ⟨S1, c1, hR, hS⟩, hF⟩
  have hc1 := hR.c1
  have hf1 := hR.fz 1
  have HN := Lib.hid (hR.setOpen (rs' := []) (O' := none) (oc' := 0) (.inl rfl) (fun e => by cases e) (by simp [maxLen]) (fun q hq => by cases hq))
  have HS := Lib.hid hS
  have HF := Lib.hid (fr_set2 (i := 1) (v := .slice none 0 0) hF)
  clear hR hS hF KS
  go_wp2
  go_end0
  exact ⟨rfl, ⟨S1, c1, HN.out, HS.out⟩, HF.out⟩
set_option maxRecDepth 100000 in
set_option maxHeartbeats 4000000 in
theorem rFence_any (y : Nat) (ss : List (BitVec 64)) (os : List St) (n : Nat) (S O : Option Addr) (sc oc : Nat) (w : World) (h : RefAt w y ss (mk os n) S sc O oc) (hn : n ≤ os.length) (hl : os.length ≤ 1000) (hv : okS os) :
    Calls Try.prog 89 #[.pointer (some ⟨y, 0, none⟩)] w fun e w' => e = .returned (.tuple #[]) ∧
      (∃ S' sc' O' oc', RefAt w' y (doW ss (os.take n)) (mk (os.drop n) 0) S' sc' O' oc' ∧ (∀ q, blk S' = some q → w.heap.size ≤ q) ∧ ∀ q, blk O' = some q → blk O = some q) ∧ Fr w w' y none := by
  have HA := Lib.hid h
  have KS := Lib.hid (rSettle_any y ss os n S O sc oc (n : Int) w h hl hv)
  have hc1 := h.c1
  rw [mk_len] at hc1
  have hcap := h.cap
  rw [mk_len] at hcap
  have hcap2 := hcap.2.1
  have hcap3 := hcap.2.2
  unfold maxLen at hcap3
  clear h hv hcap
  go_enter Try.func89, Try.ntmps89
  go_wp2
  go_loopw [2] (fun i wr => ∃ k : Nat, k ≤ n ∧ i = .int .i64 k ∧ w = wr) (fun i _ => n - (intOf i).toNat)
  case atStart => exact ⟨0, Nat.zero_le _, rfl, rfl⟩
  case round =>
    obtain ⟨k, hk, rfl, rfl⟩ := hrel
    have e0 : IntKind.i64.wrap ((k : Int) + 1) = (k : Int) + 1 := IntWalk.i64_in _ (by omega)
    by_cases h2 : k < os.length
    · obtain ⟨lb, lo, hO, hlc⟩ := HA.out.opn.at_ (show k < (mk os n).length by rw [mk_len]; exact h2)
      obtain ⟨_, _, hk3⟩ := hlc k (by rw [mk_len]; exact h2)
      rw [mk_get os n k h2] at hk3
      simp only at hk3
      clear hlc
      by_cases h1 : k < n
      · rw [decide_eq_true h1] at hk3
        subst hO
        go_wp2
        go_roundw
        case rel => exact ⟨k + 1, by omega, by go_num, trivial⟩
        case measure => simp [intOf]; omega
      · obtain rfl : k = n := by omega
        rw [decide_eq_false h1] at hk3
        subst hO
        go_wp2_with fail
        refine KS.out.mono ?_
        rintro e0 w1 ⟨rfl, ⟨S1, c1, hR, hS⟩, hF⟩
        have hc1 := hR.c1
        rw [mk_len] at hc1
        have hf1 := hR.fz 1
        have HN := Lib.hid (fence_end hR)
        have HBL := Lib.hid (blk_end (n := k) (oc := oc) (O := some ⟨lb, lo, none⟩))
        rw [if_neg (by omega)] at HN HBL
        have HS := Lib.hid hS
        have HF := Lib.hid (fr_set2 (i := 1) (v := .slice (some ⟨lb, lo + k * 3, none⟩) (os.length - k) (oc - k)) hF)
        simp only [Option.map_some, Addr.add_lit] at HN HBL
        clear hR hS hF KS
        go_wp2
        go_end0
        rw [Int.toNat_natCast] at HN
        exact ⟨rfl, ⟨S1, c1, _, _, HN.out, HS.out, HBL.out⟩, HF.out⟩
    · obtain rfl : k = n := by omega
      by_cases hdk : oc = k
      · go_wp2_with fail
        refine KS.out.mono ?_
        rintro e0 w1 ⟨rfl, ⟨S1, c1, hR, hS⟩, hF⟩
        have hc1 := hR.c1
        rw [mk_len] at hc1
        have hf1 := hR.fz 1
        have HN := Lib.hid (fence_end hR)
        have HBL := Lib.hid (blk_end (n := k) (oc := oc) (O := O))
        rw [if_pos hdk, show oc - k = 0 by omega] at HN
        rw [if_pos hdk] at HBL
        have HS := Lib.hid hS
        have HF := Lib.hid (fr_set2 (i := 1) (v := .slice O (os.length - k) 0) hF)
        clear hR hS hF KS
        go_wp2
        go_end0
        rw [Int.toNat_natCast] at HN
        exact ⟨rfl, ⟨S1, c1, _, _, HN.out, HS.out, HBL.out⟩, HF.out⟩
      go_wp2_with fail
      refine KS.out.mono ?_
      rintro e0 w1 ⟨rfl, ⟨S1, c1, hR, hS⟩, hF⟩
      have hc1 := hR.c1
      rw [mk_len] at hc1
      have hf1 := hR.fz 1
      have HN := Lib.hid (fence_end hR)
      have HBL := Lib.hid (blk_end (n := k) (oc := oc) (O := O))
      rw [if_neg hdk] at HN HBL
      have HS := Lib.hid hS
      have HF := Lib.hid (fr_set2 (i := 1) (v := .slice (O.map (fun p => p.add (k * 3))) (os.length - k) (oc - k)) hF)
      clear hR hS hF KS
      go_wp2
      go_end0
      rw [Int.toNat_natCast] at HN
      exact ⟨rfl, ⟨S1, c1, _, _, HN.out, HS.out, HBL.out⟩, HF.out⟩
/-- A slice of one block that the region has made. -/
def SliF (lo n c : Nat) (cs : Array Value) (t : TypeId) : Fact := fun v w => ∃ q, v = .slice (some ⟨q, 0, none⟩) n c ∧ lo ≤ q ∧ w.heap[q]? = some (.cells cs t (0, 0))
theorem stab_sli {lo n c : Nat} {cs : Array Value} {t : TypeId} : Stab Stood (SliF lo n c cs t) := fun v w w' ⟨q, e, hl, hq⟩ h => ⟨q, e, hl, (h.block q (Array.getElem?_eq_some_iff.1 hq).1).trans hq⟩
set_option maxRecDepth 100000 in
set_option maxHeartbeats 4000000 in
theorem rFlush_any (y : Nat) (ss : List (BitVec 64)) (os : List St) (n : Nat) (S O : Option Addr) (sc oc : Nat) (w : World) (h : RefAt w y ss (mk os n) S sc O oc) (hl : os.length ≤ 1000) :
    Calls Try.prog 88 #[.pointer (some ⟨y, 0, none⟩)] w fun e w' => e = .returned (.tuple #[]) ∧
      (∃ O' oc', RefAt w' y ss (mk os os.length) S sc O' oc' ∧ ∀ q, blk O' = some q → w.heap.size ≤ q) ∧ Fr w w' y none := by
  have HA := Lib.hid h
  clear h
  go_enter Try.func88, Try.ntmps88
  go_wp2
  go_loopw [2, 3] (fun v i wr => ∃ k : Nat, k ≤ os.length ∧ i = .int .i64 k ∧ ∃ (A : Option Addr) (c : Nat), v = .slice A k c ∧ OwnR wr w.heap.size A ((mk os os.length).take k) c ∧ Below w.heap.size w wr) (fun _ i _ => os.length - (intOf i).toNat)
  case atStart => exact ⟨0, Nat.zero_le _, rfl, none, 0, rfl, OwnR.nil_ _ _, Below.refl _ _⟩
  case round =>
    obtain ⟨k, hk, rfl, A, c, rfl, hO, hB⟩ := hrel
    have HO := Lib.hid hO
    have HB := Lib.hid hB
    have HR := Lib.hid (HA.out.below hB)
    have hc1 := HR.out.c1
    have hylt := HR.out.lt
    rw [mk_len] at hc1
    have e0 : IntKind.i64.wrap ((k : Int) + 1) = (k : Int) + 1 := IntWalk.i64_in _ (by omega)
    clear hO hB
    by_cases h2 : k < os.length
    · obtain ⟨lb, lo, rfl, hlc⟩ := HR.out.opn.at_ (show k < (mk os n).length by rw [mk_len]; exact h2)
      obtain ⟨hk1, hk2, _⟩ := hlc k (by rw [mk_len]; exact h2)
      rw [mk_get os n k h2] at hk1 hk2
      have HT := Lib.hid (mk_flush os k h2)
      have hkl : ((mk os os.length).take k).length = k := by rw [List.length_take, mk_len]; omega
      clear hlc
      generalize os[k] = zv at *
      obtain ⟨z, v⟩ := zv
      simp only at hk1 hk2 HT
      have HKL := Lib.hid hkl
      clear hkl
      go_wp2_with fail
      apply wp_region_tail 37 19 (Eqs _ :: Eqs _ :: Eqs _ :: Eqs _ :: Eqs _ :: Eqs _ :: Eqs _ :: Eqs _ :: Eqs _ :: Eqs _ :: Eqs _ :: Eqs _ :: Eqs _ :: Eqs _ :: Eqs _ :: Eqs _ :: Eqs _ :: Eqs _ :: (SliF 0 1 1 #[.int .i64 z, U v, .bool true] 152) :: []) rfl (by kernel_rfl) (by rfl) (stab_cons (stab_eq _) (stab_cons (stab_eq _) (stab_cons (stab_eq _) (stab_cons (stab_eq _) (stab_cons (stab_eq _) (stab_cons (stab_eq _) (stab_cons (stab_eq _) (stab_cons (stab_eq _) (stab_cons (stab_eq _) (stab_cons (stab_eq _) (stab_cons (stab_eq _) (stab_cons (stab_eq _) (stab_cons (stab_eq _) (stab_cons (stab_eq _) (stab_cons (stab_eq _) (stab_cons (stab_eq _) (stab_cons (stab_eq _) (stab_cons (stab_eq _) (stab_cons stab_sli stab_nil))))))))))))))))))) (by kernel_rfl) (by kernel_rfl) (by kernel_rfl) (by kernel_rfl)
      case hstep =>
        simp only [List.take_succ_cons, List.take_zero]
        refine StepsOK.cons ?_ ?_
        · -- 0: Go.Op.move (Go.Operand.tmp 2)
          intro a w1 hR1 hF hU hsz
          have e2 : a.eval (.tmp 2) = _ := hU 2 (by kernel_rfl)
          rw [if_pos (by rfl)]
          intro K hK
          clear hF hU hsz
          obtain ⟨q1, q2, q3⟩ := eval_rest a
          generalize hρ : a.eval = ρ
          rw [hρ] at q1 q2 q3 e2
          clear hρ
          have u1 := OpUp_value Try.prog K
          have u2 := OpUp_enter Try.prog K
          go_simp
          exact hK _ _ (Stood.refl _) rfl
        refine StepsOK.cons ?_ ?_
        · -- 1: Go.Op.move (Go.Operand.tmp 0)
          intro a w1 hR1 hF hU hsz
          have e0 : a.eval (.tmp 0) = _ := hU 0 (by kernel_rfl)
          rw [if_pos (by rfl)]
          intro K hK
          clear hF hU hsz
          obtain ⟨q1, q2, q3⟩ := eval_rest a
          generalize hρ : a.eval = ρ
          rw [hρ] at q1 q2 q3 e0
          clear hρ
          have u1 := OpUp_value Try.prog K
          have u2 := OpUp_enter Try.prog K
          go_simp
          exact hK _ _ (Stood.refl _) rfl
        refine StepsOK.cons ?_ ?_
        · -- 2: Go.Op.nilCheck (Go.Operand.tmp 14)
          intro a w1 hR1 hF hU hsz
          have e14 : a.eval (.tmp 14) = _ := hF 1 _ _ rfl rfl (by kernel_rfl)
          rw [if_pos (by rfl)]
          intro K hK
          clear hF hU hsz
          obtain ⟨q1, q2, q3⟩ := eval_rest a
          generalize hρ : a.eval = ρ
          rw [hρ] at q1 q2 q3 e14
          clear hρ
          have u1 := OpUp_value Try.prog K
          have u2 := OpUp_enter Try.prog K
          go_simp
          exact hK _ _ (Stood.refl _) rfl
        refine StepsOK.cons ?_ ?_
        · -- 3: Go.Op.fieldAddr 40 (Go.Operand.tmp 15) 1
          intro a w1 hR1 hF hU hsz
          have e15 : a.eval (.tmp 15) = _ := hF 2 _ _ rfl rfl (by kernel_rfl)
          rw [if_pos (by rfl)]
          intro K hK
          clear hF hU hsz
          obtain ⟨q1, q2, q3⟩ := eval_rest a
          generalize hρ : a.eval = ρ
          rw [hρ] at q1 q2 q3 e15
          clear hρ
          have u1 := OpUp_value Try.prog K
          have u2 := OpUp_enter Try.prog K
          go_simp
          exact hK _ _ (Stood.refl _) rfl
        refine StepsOK.cons ?_ ?_
        · -- 4: Go.Op.load 38 (Go.Operand.tmp 16)
          intro a w1 hR1 hF hU hsz
          have e16 : a.eval (.tmp 16) = _ := hF 3 _ _ rfl rfl (by kernel_rfl)
          rw [if_pos (by rfl)]
          intro K hK
          clear hF hU hsz
          have hy1 := ((Stood.cur hR1).cell (p := ⟨y, 1, none⟩) hylt).trans hc1
          obtain ⟨q1, q2, q3⟩ := eval_rest a
          generalize hρ : a.eval = ρ
          rw [hρ] at q1 q2 q3 e16
          clear hρ
          have u1 := OpUp_value Try.prog K
          have u2 := OpUp_enter Try.prog K
          go_simp
          exact hK _ _ (Stood.refl _) rfl
        refine StepsOK.cons ?_ ?_
        · -- 5: Go.Op.move (Go.Operand.tmp 3)
          intro a w1 hR1 hF hU hsz
          have e3 : a.eval (.tmp 3) = _ := hU 3 (by kernel_rfl)
          rw [if_pos (by rfl)]
          intro K hK
          clear hF hU hsz
          obtain ⟨q1, q2, q3⟩ := eval_rest a
          generalize hρ : a.eval = ρ
          rw [hρ] at q1 q2 q3 e3
          clear hρ
          have u1 := OpUp_value Try.prog K
          have u2 := OpUp_enter Try.prog K
          go_simp
          exact hK _ _ (Stood.refl _) rfl
        refine StepsOK.cons ?_ ?_
        · -- 6: Go.Op.indexAddr 38 (Go.Operand.tmp 17) (Go.Operand.tmp 18)
          intro a w1 hR1 hF hU hsz
          have e17 : a.eval (.tmp 17) = _ := hF 4 _ _ rfl rfl (by kernel_rfl)
          have e18 : a.eval (.tmp 18) = _ := hF 5 _ _ rfl rfl (by kernel_rfl)
          rw [if_pos (by rfl)]
          intro K hK
          clear hF hU hsz
          obtain ⟨q1, q2, q3⟩ := eval_rest a
          generalize hρ : a.eval = ρ
          rw [hρ] at q1 q2 q3 e17 e18
          clear hρ
          have u1 := OpUp_value Try.prog K
          have u2 := OpUp_enter Try.prog K
          go_simp
          exact hK _ _ (Stood.refl _) rfl
        refine StepsOK.cons ?_ ?_
        · -- 7: Go.Op.fieldAddr 88 (Go.Operand.tmp 19) 0
          intro a w1 hR1 hF hU hsz
          have e19 : a.eval (.tmp 19) = _ := hF 6 _ _ rfl rfl (by kernel_rfl)
          rw [if_pos (by rfl)]
          intro K hK
          clear hF hU hsz
          obtain ⟨q1, q2, q3⟩ := eval_rest a
          generalize hρ : a.eval = ρ
          rw [hρ] at q1 q2 q3 e19
          clear hρ
          have u1 := OpUp_value Try.prog K
          have u2 := OpUp_enter Try.prog K
          go_simp
          exact hK _ _ (Stood.refl _) rfl
        refine StepsOK.cons ?_ ?_
        · -- 8: Go.Op.load 3 (Go.Operand.tmp 20)
          intro a w1 hR1 hF hU hsz
          have e20 : a.eval (.tmp 20) = _ := hF 7 _ _ rfl rfl (by kernel_rfl)
          rw [if_pos (by rfl)]
          intro K hK
          clear hF hU hsz
          have hz1 := ((Stood.cur hR1).cell (p := ⟨lb, lo + k * 3, none⟩) (cell_lt hk1)).trans hk1
          obtain ⟨q1, q2, q3⟩ := eval_rest a
          generalize hρ : a.eval = ρ
          rw [hρ] at q1 q2 q3 e20
          clear hρ
          have u1 := OpUp_value Try.prog K
          have u2 := OpUp_enter Try.prog K
          go_simp
          exact hK _ _ (Stood.refl _) rfl
        refine StepsOK.cons ?_ ?_
        · -- 9: Go.Op.move (Go.Operand.tmp 0)
          intro a w1 hR1 hF hU hsz
          have e0 : a.eval (.tmp 0) = _ := hU 0 (by kernel_rfl)
          rw [if_pos (by rfl)]
          intro K hK
          clear hF hU hsz
          obtain ⟨q1, q2, q3⟩ := eval_rest a
          generalize hρ : a.eval = ρ
          rw [hρ] at q1 q2 q3 e0
          clear hρ
          have u1 := OpUp_value Try.prog K
          have u2 := OpUp_enter Try.prog K
          go_simp
          exact hK _ _ (Stood.refl _) rfl
        refine StepsOK.cons ?_ ?_
        · -- 10: Go.Op.nilCheck (Go.Operand.tmp 22)
          intro a w1 hR1 hF hU hsz
          have e22 : a.eval (.tmp 22) = _ := hF 9 _ _ rfl rfl (by kernel_rfl)
          rw [if_pos (by rfl)]
          intro K hK
          clear hF hU hsz
          obtain ⟨q1, q2, q3⟩ := eval_rest a
          generalize hρ : a.eval = ρ
          rw [hρ] at q1 q2 q3 e22
          clear hρ
          have u1 := OpUp_value Try.prog K
          have u2 := OpUp_enter Try.prog K
          go_simp
          exact hK _ _ (Stood.refl _) rfl
        refine StepsOK.cons ?_ ?_
        · -- 11: Go.Op.fieldAddr 40 (Go.Operand.tmp 23) 1
          intro a w1 hR1 hF hU hsz
          have e23 : a.eval (.tmp 23) = _ := hF 10 _ _ rfl rfl (by kernel_rfl)
          rw [if_pos (by rfl)]
          intro K hK
          clear hF hU hsz
          obtain ⟨q1, q2, q3⟩ := eval_rest a
          generalize hρ : a.eval = ρ
          rw [hρ] at q1 q2 q3 e23
          clear hρ
          have u1 := OpUp_value Try.prog K
          have u2 := OpUp_enter Try.prog K
          go_simp
          exact hK _ _ (Stood.refl _) rfl
        refine StepsOK.cons ?_ ?_
        · -- 12: Go.Op.load 38 (Go.Operand.tmp 24)
          intro a w1 hR1 hF hU hsz
          have e24 : a.eval (.tmp 24) = _ := hF 11 _ _ rfl rfl (by kernel_rfl)
          rw [if_pos (by rfl)]
          intro K hK
          clear hF hU hsz
          have hy1 := ((Stood.cur hR1).cell (p := ⟨y, 1, none⟩) hylt).trans hc1
          obtain ⟨q1, q2, q3⟩ := eval_rest a
          generalize hρ : a.eval = ρ
          rw [hρ] at q1 q2 q3 e24
          clear hρ
          have u1 := OpUp_value Try.prog K
          have u2 := OpUp_enter Try.prog K
          go_simp
          exact hK _ _ (Stood.refl _) rfl
        refine StepsOK.cons ?_ ?_
        · -- 13: Go.Op.move (Go.Operand.tmp 3)
          intro a w1 hR1 hF hU hsz
          have e3 : a.eval (.tmp 3) = _ := hU 3 (by kernel_rfl)
          rw [if_pos (by rfl)]
          intro K hK
          clear hF hU hsz
          obtain ⟨q1, q2, q3⟩ := eval_rest a
          generalize hρ : a.eval = ρ
          rw [hρ] at q1 q2 q3 e3
          clear hρ
          have u1 := OpUp_value Try.prog K
          have u2 := OpUp_enter Try.prog K
          go_simp
          exact hK _ _ (Stood.refl _) rfl
        refine StepsOK.cons ?_ ?_
        · -- 14: Go.Op.indexAddr 38 (Go.Operand.tmp 25) (Go.Operand.tmp 26)
          intro a w1 hR1 hF hU hsz
          have e25 : a.eval (.tmp 25) = _ := hF 12 _ _ rfl rfl (by kernel_rfl)
          have e26 : a.eval (.tmp 26) = _ := hF 13 _ _ rfl rfl (by kernel_rfl)
          rw [if_pos (by rfl)]
          intro K hK
          clear hF hU hsz
          obtain ⟨q1, q2, q3⟩ := eval_rest a
          generalize hρ : a.eval = ρ
          rw [hρ] at q1 q2 q3 e25 e26
          clear hρ
          have u1 := OpUp_value Try.prog K
          have u2 := OpUp_enter Try.prog K
          go_simp
          exact hK _ _ (Stood.refl _) rfl
        refine StepsOK.cons ?_ ?_
        · -- 15: Go.Op.fieldAddr 88 (Go.Operand.tmp 27) 1
          intro a w1 hR1 hF hU hsz
          have e27 : a.eval (.tmp 27) = _ := hF 14 _ _ rfl rfl (by kernel_rfl)
          rw [if_pos (by rfl)]
          intro K hK
          clear hF hU hsz
          obtain ⟨q1, q2, q3⟩ := eval_rest a
          generalize hρ : a.eval = ρ
          rw [hρ] at q1 q2 q3 e27
          clear hρ
          have u1 := OpUp_value Try.prog K
          have u2 := OpUp_enter Try.prog K
          go_simp
          exact hK _ _ (Stood.refl _) rfl
        refine StepsOK.cons ?_ ?_
        · -- 16: Go.Op.load 25 (Go.Operand.tmp 28)
          intro a w1 hR1 hF hU hsz
          have e28 : a.eval (.tmp 28) = _ := hF 15 _ _ rfl rfl (by kernel_rfl)
          rw [if_pos (by rfl)]
          intro K hK
          clear hF hU hsz
          have hz1 := ((Stood.cur hR1).cell (p := ⟨lb, lo + k * 3 + 1, none⟩) (cell_lt hk2)).trans hk2
          obtain ⟨q1, q2, q3⟩ := eval_rest a
          generalize hρ : a.eval = ρ
          rw [hρ] at q1 q2 q3 e28
          clear hρ
          have u1 := OpUp_value Try.prog K
          have u2 := OpUp_enter Try.prog K
          go_simp
          exact hK _ _ (Stood.refl _) rfl
        refine StepsOK.cons ?_ ?_
        · -- 17: Go.Op.build 88 #[(0, Go.Operand.tmp 21), (1, Go.Operand.tmp 29), (2, Go.Operand.
          intro a w1 hR1 hF hU hsz
          have e21 : a.eval (.tmp 21) = _ := hF 8 _ _ rfl rfl (by kernel_rfl)
          have e29 : a.eval (.tmp 29) = _ := hF 16 _ _ rfl rfl (by kernel_rfl)
          rw [if_pos (by rfl)]
          intro K hK
          clear hF hU hsz
          obtain ⟨q1, q2, q3⟩ := eval_rest a
          generalize hρ : a.eval = ρ
          rw [hρ] at q1 q2 q3 e21 e29
          clear hρ
          have u1 := OpUp_value Try.prog K
          have u2 := OpUp_enter Try.prog K
          go_simp
          exact hK _ _ (Stood.refl _) rfl
        refine StepsOK.cons ?_ ?_
        · -- 18: Go.Op.buildSlice 38 1 #[(0, Go.Operand.tmp 30)]
          intro a w1 hR1 hF hU hsz
          have e30 : a.eval (.tmp 30) = _ := hF 17 _ _ rfl rfl (by kernel_rfl)
          rw [if_pos (by rfl)]
          intro K hK
          clear hF hU hsz
          obtain ⟨q1, q2, q3⟩ := eval_rest a
          generalize hρ : a.eval = ρ
          rw [hρ] at q1 q2 q3 e30
          clear hρ
          have u1 := OpUp_value Try.prog K
          have u2 := OpUp_enter Try.prog K
          go_simp
          exact hK _ _ ((Below.refl _ _).alloc (Nat.le_refl _) _) ⟨_, rfl, Nat.zero_le _, heap_alloc_new w1 _⟩
        exact StepsOK.nil
      case hend =>
        intro vs0 w1 hR1 hH0
        obtain ⟨vs1, rfl, hH1⟩ := hH0.eq_
        obtain ⟨vs2, rfl, hH2⟩ := hH1.eq_
        obtain ⟨vs3, rfl, hH3⟩ := hH2.eq_
        obtain ⟨vs4, rfl, hH4⟩ := hH3.eq_
        obtain ⟨vs5, rfl, hH5⟩ := hH4.eq_
        obtain ⟨vs6, rfl, hH6⟩ := hH5.eq_
        obtain ⟨vs7, rfl, hH7⟩ := hH6.eq_
        obtain ⟨vs8, rfl, hH8⟩ := hH7.eq_
        obtain ⟨vs9, rfl, hH9⟩ := hH8.eq_
        obtain ⟨vs10, rfl, hH10⟩ := hH9.eq_
        obtain ⟨vs11, rfl, hH11⟩ := hH10.eq_
        obtain ⟨vs12, rfl, hH12⟩ := hH11.eq_
        obtain ⟨vs13, rfl, hH13⟩ := hH12.eq_
        obtain ⟨vs14, rfl, hH14⟩ := hH13.eq_
        obtain ⟨vs15, rfl, hH15⟩ := hH14.eq_
        obtain ⟨vs16, rfl, hH16⟩ := hH15.eq_
        obtain ⟨vs17, rfl, hH17⟩ := hH16.eq_
        obtain ⟨vs18, rfl, hH18⟩ := hH17.eq_
        obtain ⟨v18, vs19, rfl, hv18, hH19⟩ := hH18.cons
        obtain rfl := hH19.nil
        clear hH0 hH1 hH2 hH3 hH4 hH5 hH6 hH7 hH8 hH9 hH10 hH11 hH12 hH13 hH14 hH15 hH16 hH17 hH18 hH19
        simp only [List.take_succ_cons, List.take_zero, putAll, Act.put, List.setIfInBounds_toArray, List.set_cons_zero, List.set_cons_succ]
        obtain ⟨q, rfl, hq1, hq2⟩ := hv18
        have HO1 := Lib.hid (HO.out.below (Stood.cur hR1))
        have HB1 := Lib.hid (HB.out.trans ((Stood.cur hR1).mono HB.out.size))
        have hrd : RdR w1 (some ⟨q, 0, none⟩) [(z, v, true)] := by
          refine .inr ⟨q, 0, rfl, fun j hj => ?_⟩
          obtain rfl : j = 0 := by simpa using hj
          exact ⟨Lib.cell_of_heap hq2 0, Lib.cell_of_heap hq2 1, Lib.cell_of_heap hq2 2⟩
        refine (show ∀ {p : Prop}, Stop p → p from fun h => h) ?_
        refine appR (.tmp 13) (.tmp 31) rfl rfl w.heap.size A ((mk os os.length).take k) _ c rfl HKL.out.symm HO1.out (some ⟨q, 0, none⟩) [(z, v, true)] 1 1 rfl rfl hrd (by rw [HKL.out]; simp; omega) HB1.out.size ?_
        intro A3 vs c3 w3 hvs hown3 hg3 hnew3
        have HB3 := Lib.hid (HB1.out.grown hg3 HB1.out.size (fun j hj => (HO1.out.lt j hj).1))
        have HO3 := Lib.hid (show OwnR w3 w.heap.size A3 ((mk os os.length).take (k + 1)) c3 by rw [HT.out, ← hvs]; exact hown3)
        have hvl : vs.length = k + 1 := by rw [hvs, List.length_append, HKL.out]; rfl
        rw [hvl]
        clear hvs hown3 hg3 hnew3 hrd hvl
        unfold Stop
        go_wp2
        go_roundw
        case rel => exact ⟨k + 1, by omega, by go_num, A3, c3, rfl, HO3.out, HB3.out⟩
        case measure => simp [intOf]; omega
    · obtain rfl : k = os.length := by omega
      have hwr := HR.out
      have hf1 := hwr.fz 1
      have hlt := HO.out.lt
      have HN := Lib.hid (hwr.setOpen HO.out.rd (fun e => by have := (hlt y e).1; have := HA.out.lt; omega) HO.out.cap (fun q hq => (hlt q hq).2))
      have HL := Lib.hid (show ∀ q, blk A = some q → w.heap.size ≤ q from fun q hq => (hlt q hq).1)
      have hml : ((mk os os.length).take os.length) = mk os os.length := by rw [List.take_of_length_le (by rw [mk_len]; exact Nat.le_refl _)]
      rw [hml, mk_len] at HN
      have HF := Lib.hid (fr_set (y := y) (i := 1) (v := .slice A os.length c) HB.out)
      clear hwr hlt hml
      go_wp2
      go_end0
      exact ⟨rfl, ⟨A, c, HN.out, HL.out⟩, HF.out⟩
set_option maxRecDepth 100000 in
set_option maxHeartbeats 4000000 in
theorem rNew_any (A : Option Addr) (xs : List (BitVec 64)) (c : Nat) (w : World) (hr : RdU w A xs) (hx : xs.length ≤ 1000) :
    Calls Try.prog 85 #[.slice A xs.length c] w fun e w' => e = .returned (.pointer (some ⟨w.heap.size + 1, 0, none⟩)) ∧ RefAt w' (w.heap.size + 1) (f8 xs (min xs.length 8)) [] (some ⟨w.heap.size, 0, none⟩) 8 none 0 ∧ Below w.heap.size w w' := by
  have HX := Lib.hid hr
  clear hr
  have hmk := fun (W : World) => show (Instr.makeSlice 44 (.int .i64 8) (.int .i64 8)).run Try.prog W = .ok (.slice (some ⟨W.heap.size, 0, none⟩) 8 8) (W.alloc (.cells (Array.replicate 8 (U 0#64)) 22)) from make_U 8 (by omega) W
  have HO0 := Lib.hid (OwnU.rep w w.heap.size 8 (Nat.le_refl _) (by unfold maxLen; omega))
  have HB0 := Lib.hid ((Below.refl w.heap.size w).alloc (Nat.le_refl _) (.cells (Array.replicate 8 (U 0#64)) 22))
  go_enter Try.func85, Try.ntmps85
  have HO1 := Lib.hid (show OwnU ((w.alloc (.cells (Array.replicate 8 (U 0#64)) 22)).alloc (.cells #[.slice (some ⟨w.heap.size, 0, none⟩) 8 8, .slice none 0 0] 150)) w.heap.size (some ⟨w.heap.size, 0, none⟩) (f8 xs 0) 8 by
    rw [f8_zero]
    exact HO0.out.below ((Below.refl _ _).alloc (Nat.le_refl _) _))
  have HB1 := Lib.hid (HB0.out.alloc HB0.out.size (.cells #[.slice (some ⟨w.heap.size, 0, none⟩) 8 8, .slice none 0 0] 150))
  have HY := Lib.hid (show ((w.alloc (.cells (Array.replicate 8 (U 0#64)) 22)).alloc (.cells #[.slice (some ⟨w.heap.size, 0, none⟩) 8 8, .slice none 0 0] 150)).heap[w.heap.size + 1]? = some (.cells #[.slice (some ⟨w.heap.size, 0, none⟩) 8 8, .slice none 0 0] 150 (0, 0)) by
    have h := heap_alloc_new (w.alloc (.cells (Array.replicate 8 (U 0#64)) 22)) (.cells #[.slice (some ⟨w.heap.size, 0, none⟩) 8 8, .slice none 0 0] 150)
    simpa using h)
  clear HO0 HB0
  go_wp2
  generalize (w.alloc (.cells (Array.replicate 8 (U 0#64)) 22)).alloc (.cells #[.slice (some ⟨w.heap.size, 0, none⟩) 8 8, .slice none 0 0] 150) = wz at *
  go_loopw [4] (fun i wr => ∃ k : Nat, k ≤ 8 ∧ k ≤ xs.length ∧ i = .int .i64 k ∧ OwnU wr w.heap.size (some ⟨w.heap.size, 0, none⟩) (f8 xs k) 8 ∧ wr.heap[w.heap.size + 1]? = some (.cells #[.slice (some ⟨w.heap.size, 0, none⟩) 8 8, .slice none 0 0] 150 (0, 0)) ∧ Below w.heap.size w wr) (fun i _ => 8 - (intOf i).toNat)
  case atStart => exact ⟨0, Nat.zero_le _, Nat.zero_le _, rfl, HO1.out, HY.out, HB1.out⟩
  case round =>
    clear HO1 HB1 HY
    obtain ⟨k, hk8, hkx, rfl, hO, hY, hB⟩ := hrel
    have HO := Lib.hid hO
    have HB := Lib.hid hB
    have HY := Lib.hid hY
    have hc0 : wr.cell? ⟨w.heap.size + 1, 0, none⟩ = some (.slice (some ⟨w.heap.size, 0, none⟩) 8 8) := by rw [Lib.cell_of_heap hY 0]; rfl
    have hylt : w.heap.size + 1 < wr.heap.size := (Array.getElem?_eq_some_iff.1 hY).1
    have e0 : IntKind.i64.wrap ((k : Int) + 1) = (k : Int) + 1 := IntWalk.i64_in _ (by omega)
    clear hO hB hY
    by_cases h1 : k < 8
    · by_cases h2 : k < xs.length
      · obtain ⟨lb, lo, rfl, hlc⟩ := (HX.out.below HB.out).at_ h2
        have hk1 := hlc k h2
        have HT := Lib.hid (f8_set xs k h1 h2)
        have HL := Lib.hid (f8_len xs k hk8 hkx)
        clear hlc
        generalize xs[k] = v at *
        go_wp2_with fail
        apply wp_region_last 29 (Eqs _ :: Eqs _ :: Eqs _ :: Eqs _ :: Eqs _ :: Eqs _ :: Eqs _ :: Eqs _ :: Eqs _ :: Eqs _ :: []) rfl (by kernel_rfl) (by rfl) (stab_cons (stab_eq _) (stab_cons (stab_eq _) (stab_cons (stab_eq _) (stab_cons (stab_eq _) (stab_cons (stab_eq _) (stab_cons (stab_eq _) (stab_cons (stab_eq _) (stab_cons (stab_eq _) (stab_cons (stab_eq _) (stab_cons (stab_eq _) stab_nil)))))))))) (by kernel_rfl) (by kernel_rfl) (by kernel_rfl)
        case hstep =>
          simp only [List.dropLast_cons_cons, List.dropLast_singleton]
          refine StepsOK.cons ?_ ?_
          · -- 0: Go.Op.move (Go.Operand.tmp 3)
            intro a w1 hR1 hF hU hsz
            have e3 : a.eval (.tmp 3) = _ := hU 3 (by kernel_rfl)
            rw [if_pos (by rfl)]
            intro K hK
            clear hF hU hsz
            obtain ⟨q1, q2, q3⟩ := eval_rest a
            generalize hρ : a.eval = ρ
            rw [hρ] at q1 q2 q3 e3
            clear hρ
            have u1 := OpUp_value Try.prog K
            have u2 := OpUp_enter Try.prog K
            go_simp
            exact hK _ _ (Stood.refl _) rfl
          refine StepsOK.cons ?_ ?_
          · -- 1: Go.Op.nilCheck (Go.Operand.tmp 18)
            intro a w1 hR1 hF hU hsz
            have e18 : a.eval (.tmp 18) = _ := hF 0 _ _ rfl rfl (by kernel_rfl)
            rw [if_pos (by rfl)]
            intro K hK
            clear hF hU hsz
            obtain ⟨q1, q2, q3⟩ := eval_rest a
            generalize hρ : a.eval = ρ
            rw [hρ] at q1 q2 q3 e18
            clear hρ
            have u1 := OpUp_value Try.prog K
            have u2 := OpUp_enter Try.prog K
            go_simp
            exact hK _ _ (Stood.refl _) rfl
          refine StepsOK.cons ?_ ?_
          · -- 2: Go.Op.fieldAddr 40 (Go.Operand.tmp 19) 0
            intro a w1 hR1 hF hU hsz
            have e19 : a.eval (.tmp 19) = _ := hF 1 _ _ rfl rfl (by kernel_rfl)
            rw [if_pos (by rfl)]
            intro K hK
            clear hF hU hsz
            obtain ⟨q1, q2, q3⟩ := eval_rest a
            generalize hρ : a.eval = ρ
            rw [hρ] at q1 q2 q3 e19
            clear hρ
            have u1 := OpUp_value Try.prog K
            have u2 := OpUp_enter Try.prog K
            go_simp
            exact hK _ _ (Stood.refl _) rfl
          refine StepsOK.cons ?_ ?_
          · -- 3: Go.Op.load 28 (Go.Operand.tmp 20)
            intro a w1 hR1 hF hU hsz
            have e20 : a.eval (.tmp 20) = _ := hF 2 _ _ rfl rfl (by kernel_rfl)
            rw [if_pos (by rfl)]
            intro K hK
            clear hF hU hsz
            have hy0 := ((Stood.cur hR1).cell (p := ⟨w.heap.size + 1, 0, none⟩) hylt).trans hc0
            obtain ⟨q1, q2, q3⟩ := eval_rest a
            generalize hρ : a.eval = ρ
            rw [hρ] at q1 q2 q3 e20
            clear hρ
            have u1 := OpUp_value Try.prog K
            have u2 := OpUp_enter Try.prog K
            go_simp
            exact hK _ _ (Stood.refl _) rfl
          refine StepsOK.cons ?_ ?_
          · -- 4: Go.Op.move (Go.Operand.tmp 4)
            intro a w1 hR1 hF hU hsz
            have e4 : a.eval (.tmp 4) = _ := hU 4 (by kernel_rfl)
            rw [if_pos (by rfl)]
            intro K hK
            clear hF hU hsz
            obtain ⟨q1, q2, q3⟩ := eval_rest a
            generalize hρ : a.eval = ρ
            rw [hρ] at q1 q2 q3 e4
            clear hρ
            have u1 := OpUp_value Try.prog K
            have u2 := OpUp_enter Try.prog K
            go_simp
            exact hK _ _ (Stood.refl _) rfl
          refine StepsOK.cons ?_ ?_
          · -- 5: Go.Op.move (Go.Operand.tmp 0)
            intro a w1 hR1 hF hU hsz
            have e0 : a.eval (.tmp 0) = _ := hU 0 (by kernel_rfl)
            rw [if_pos (by rfl)]
            intro K hK
            clear hF hU hsz
            obtain ⟨q1, q2, q3⟩ := eval_rest a
            generalize hρ : a.eval = ρ
            rw [hρ] at q1 q2 q3 e0
            clear hρ
            have u1 := OpUp_value Try.prog K
            have u2 := OpUp_enter Try.prog K
            go_simp
            exact hK _ _ (Stood.refl _) rfl
          refine StepsOK.cons ?_ ?_
          · -- 6: Go.Op.move (Go.Operand.tmp 4)
            intro a w1 hR1 hF hU hsz
            have e4 : a.eval (.tmp 4) = _ := hU 4 (by kernel_rfl)
            rw [if_pos (by rfl)]
            intro K hK
            clear hF hU hsz
            obtain ⟨q1, q2, q3⟩ := eval_rest a
            generalize hρ : a.eval = ρ
            rw [hρ] at q1 q2 q3 e4
            clear hρ
            have u1 := OpUp_value Try.prog K
            have u2 := OpUp_enter Try.prog K
            go_simp
            exact hK _ _ (Stood.refl _) rfl
          refine StepsOK.cons ?_ ?_
          · -- 7: Go.Op.indexAddr 28 (Go.Operand.tmp 23) (Go.Operand.tmp 24)
            intro a w1 hR1 hF hU hsz
            have e23 : a.eval (.tmp 23) = _ := hF 5 _ _ rfl rfl (by kernel_rfl)
            have e24 : a.eval (.tmp 24) = _ := hF 6 _ _ rfl rfl (by kernel_rfl)
            rw [if_pos (by rfl)]
            intro K hK
            clear hF hU hsz
            obtain ⟨q1, q2, q3⟩ := eval_rest a
            generalize hρ : a.eval = ρ
            rw [hρ] at q1 q2 q3 e23 e24
            clear hρ
            have u1 := OpUp_value Try.prog K
            have u2 := OpUp_enter Try.prog K
            go_simp
            exact hK _ _ (Stood.refl _) rfl
          refine StepsOK.cons ?_ ?_
          · -- 8: Go.Op.load 25 (Go.Operand.tmp 25)
            intro a w1 hR1 hF hU hsz
            have e25 : a.eval (.tmp 25) = _ := hF 7 _ _ rfl rfl (by kernel_rfl)
            rw [if_pos (by rfl)]
            intro K hK
            clear hF hU hsz
            have hz1 := ((Stood.cur hR1).cell (p := ⟨lb, lo + k, none⟩) (cell_lt hk1)).trans hk1
            obtain ⟨q1, q2, q3⟩ := eval_rest a
            generalize hρ : a.eval = ρ
            rw [hρ] at q1 q2 q3 e25
            clear hρ
            have u1 := OpUp_value Try.prog K
            have u2 := OpUp_enter Try.prog K
            go_simp
            exact hK _ _ (Stood.refl _) rfl
          refine StepsOK.cons ?_ ?_
          · -- 9: Go.Op.indexAddr 28 (Go.Operand.tmp 21) (Go.Operand.tmp 22)
            intro a w1 hR1 hF hU hsz
            have e21 : a.eval (.tmp 21) = _ := hF 3 _ _ rfl rfl (by kernel_rfl)
            have e22 : a.eval (.tmp 22) = _ := hF 4 _ _ rfl rfl (by kernel_rfl)
            rw [if_pos (by rfl)]
            intro K hK
            clear hF hU hsz
            obtain ⟨q1, q2, q3⟩ := eval_rest a
            generalize hρ : a.eval = ρ
            rw [hρ] at q1 q2 q3 e21 e22
            clear hρ
            have u1 := OpUp_value Try.prog K
            have u2 := OpUp_enter Try.prog K
            go_simp
            exact hK _ _ (Stood.refl _) rfl
          exact StepsOK.nil
        case hend =>
          intro vs0 w1 hR1 hH0
          obtain ⟨vs1, rfl, hH1⟩ := hH0.eq_
          obtain ⟨vs2, rfl, hH2⟩ := hH1.eq_
          obtain ⟨vs3, rfl, hH3⟩ := hH2.eq_
          obtain ⟨vs4, rfl, hH4⟩ := hH3.eq_
          obtain ⟨vs5, rfl, hH5⟩ := hH4.eq_
          obtain ⟨vs6, rfl, hH6⟩ := hH5.eq_
          obtain ⟨vs7, rfl, hH7⟩ := hH6.eq_
          obtain ⟨vs8, rfl, hH8⟩ := hH7.eq_
          obtain ⟨vs9, rfl, hH9⟩ := hH8.eq_
          obtain ⟨vs10, rfl, hH10⟩ := hH9.eq_
          obtain rfl := hH10.nil
          clear hH0 hH1 hH2 hH3 hH4 hH5 hH6 hH7 hH8 hH9 hH10
          simp only [List.dropLast_cons_cons, List.dropLast_singleton, putAll, Act.put, List.setIfInBounds_toArray, List.set_cons_zero, List.set_cons_succ]
          have HO1 := Lib.hid (HO.out.below (Stood.cur hR1))
          have HB1 := Lib.hid (HB.out.trans ((Stood.cur hR1).mono HB.out.size))
          have hcm := HO1.out.cellAt k (by rw [HL.out]; exact h1)
          have hfm := HO1.out.frozenAt k
          generalize (f8 xs k)[k]'_ = old at hcm
          have HN := Lib.hid (HO1.out.stored k v)
          have HN2 := Lib.hid (HB1.out.setCell (p := ⟨w.heap.size, k, none⟩) (Nat.le_refl _) (U v))
          have HY2 := Lib.hid (show (w1.setCell ⟨w.heap.size, k, none⟩ (U v)).heap[w.heap.size + 1]? = _ from (Below.heap_setCell _ _ _ _ (by simp)).trans (((Stood.cur hR1).block (w.heap.size + 1) hylt).trans HY.out))
          clear HO1 HB1
          go_wp2
          go_roundw
          case rel => exact ⟨k + 1, by omega, by omega, by go_num, by rw [← HT.out]; exact HN.out, HY2.out, HN2.out⟩
          case measure => simp [intOf]; omega
      · have HT := Lib.hid (show k = min xs.length 8 by omega)
        have HR := Lib.hid (show RefAt wr (w.heap.size + 1) (f8 xs k) [] (some ⟨w.heap.size, 0, none⟩) 8 none 0 from
          ⟨HY.out, f8_len xs k hk8 hkx, HO.out.rd, .inl rfl, (fun e => by have e2 : w.heap.size = w.heap.size + 1 := Option.some.inj e; omega), (fun e => by cases e), (by simp [maxLen]), (fun q hq => by cases hq)⟩)
        go_wp2
        go_ret
        exact ⟨rfl, by rw [← HT.out]; exact HR.out, HB.out⟩
    · have HT := Lib.hid (show k = min xs.length 8 by omega)
      have HR := Lib.hid (show RefAt wr (w.heap.size + 1) (f8 xs k) [] (some ⟨w.heap.size, 0, none⟩) 8 none 0 from
        ⟨HY.out, f8_len xs k hk8 hkx, HO.out.rd, .inl rfl, (fun e => by have e2 : w.heap.size = w.heap.size + 1 := Option.some.inj e; omega), (fun e => by cases e), (by simp [maxLen]), (fun q hq => by cases hq)⟩)
      go_wp2
      go_ret
      exact ⟨rfl, by rw [← HT.out]; exact HR.out, HB.out⟩
end Go.Proofs.Ytoifejinppjeeaa
