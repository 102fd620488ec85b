/- The walks of the reference's head: magic, PutHead. No condition. -/
import Derived.Test.YtgkojedgamglgaaHeadFind2
import Derived.Test.YtgkojedgamglgaaRegion3
import Derived.Test.YtgkojedgamglgaaRefGood
import Derived.Test.YtgkojedgamglgaaRefSame
import Derived.Test.YtgkojedgamglgaaSealRefWalks
namespace Go.Proofs.Ytgkojedgamglgaa
open Go.RowKit
set_option linter.unusedVariables false
set_option linter.unusedSimpArgs false
theorem magic_any (w : World) : Calls Try.prog 77 #[] w fun e w' => e = .returned (U headM) ∧ w = w' := by
  go_enter Try.func77, Try.ntmps77
  go_wp2
  go_ret
  exact ⟨rfl, rfl⟩
set_option maxRecDepth 100000 in
set_option maxHeartbeats 4000000 in
theorem rPut_any (g : Geo) (p : BitVec 64) (w : World) :
    Calls Try.prog 32 #[g.v, U p] w fun e w' => (∃ B d, e = .returned (.slice B (headW g p).length d) ∧ OwnU w' w.heap.size B (headW g p) d) ∧ Below w.heap.size w w' := by
  have KG := Lib.hid (fun W => refGood_any g W)
  by_cases hg : g.good = true
  · rw [headW_good hg]
    rw [hg] at KG
    have HL := Lib.hid (show headL g = [headM, w64 g.b, w64 g.n, w64 g.c, w64 g.k, 0#64] from rfl)
    generalize headL g = hl at *
    clear hg
    obtain ⟨b, n, c, k⟩ := g
    simp only [Geo.v] at *
    have HW := Lib.hid ((Below.refl w.heap.size w).alloc (Nat.le_refl _) (.cells #[.int .i64 b, .int .i64 n, .int .i64 c, .int .i64 k] 44))
    go_enter Try.func32, Try.ntmps32
    go_wp2_with fail
    refine (KG.out _).mono ?_
    rintro e w2 ⟨rfl, hb⟩
    obtain ⟨c0, c1, c2, c3⟩ := geo_cells hb
    have hsz : w.heap.size < w2.heap.size := by have := hb.size; simp at this; omega
    have HW := Lib.hid (HW.out.trans (hb.mono HW.out.size))
    clear hb
    go_wp2_with fail
    apply wp_region_tail 29 13 (Eqs _ :: Eqs _ :: Eqs _ :: Eqs _ :: Eqs _ :: Eqs _ :: Eqs _ :: Eqs _ :: Eqs _ :: Eqs _ :: Eqs _ :: Eqs _ :: Eqs _ :: []) rfl (by kernel_rfl) (by rfl) (stab_cons (stab_eq _) (stab_cons (stab_eq _) (stab_cons (stab_eq _) (stab_cons (stab_eq _) (stab_cons (stab_eq _) (stab_cons (stab_eq _) (stab_cons (stab_eq _) (stab_cons (stab_eq _) (stab_cons (stab_eq _) (stab_cons (stab_eq _) (stab_cons (stab_eq _) (stab_cons (stab_eq _) (stab_cons (stab_eq _) stab_nil))))))))))))) (by kernel_rfl) (by kernel_rfl) (by kernel_rfl) (by kernel_rfl)
    case hstep =>
      simp only [List.take_succ_cons, List.take_zero]
      refine StepsOK.cons ?_ ?_
      · -- 0: Go.Op.call { callee := Go.Callee.value (Go.Operand.func 77), args := #[], argTyp
        intro a w1 hR1 hF hU hsz
        rw [if_pos (by rfl)]
        intro K hK
        clear hF hU hsz
        obtain ⟨q1, q2, q3⟩ := eval_rest a
        generalize hρ : a.eval = ρ
        rw [hρ] at q1 q2 q3
        clear hρ
        have u1 := OpUp_value Try.prog K
        have u2 := OpUp_enter Try.prog K
        go_simp
        refine (magic_any w1).mono ?_
        rintro e w' ⟨rfl, rfl⟩
        exact ⟨_, rfl, hK _ _ (Stood.refl _) rfl⟩
      refine StepsOK.cons ?_ ?_
      · -- 1: Go.Op.fieldAddr 44 (Go.Operand.tmp 2) 0
        intro a w1 hR1 hF hU hsz
        have e2 : a.eval (.tmp 2) = _ := hU 2 (by kernel_rfl)
        rw [if_pos (by rfl)]
        intro K hK
        clear hF hU hsz
        obtain ⟨q1, q2, q3⟩ := eval_rest a
        generalize hρ : a.eval = ρ
        rw [hρ] at q1 q2 q3 e2
        clear hρ
        have u1 := OpUp_value Try.prog K
        have u2 := OpUp_enter Try.prog K
        go_simp
        exact hK _ _ (Stood.refl _) rfl
      refine StepsOK.cons ?_ ?_
      · -- 2: Go.Op.load 3 (Go.Operand.tmp 10)
        intro a w1 hR1 hF hU hsz
        have e10 : a.eval (.tmp 10) = _ := hF 1 _ _ rfl rfl (by kernel_rfl)
        rw [if_pos (by rfl)]
        intro K hK
        clear hF hU hsz
        have hz := ((Stood.cur hR1).cell (p := ⟨w.heap.size, 0, none⟩) hsz).trans c0
        obtain ⟨q1, q2, q3⟩ := eval_rest a
        generalize hρ : a.eval = ρ
        rw [hρ] at q1 q2 q3 e10
        clear hρ
        have u1 := OpUp_value Try.prog K
        have u2 := OpUp_enter Try.prog K
        go_simp
        exact hK _ _ (Stood.refl _) rfl
      refine StepsOK.cons ?_ ?_
      · -- 3: Go.Op.convert 3 22 (Go.Operand.tmp 11)
        intro a w1 hR1 hF hU hsz
        have e11 : a.eval (.tmp 11) = _ := hF 2 _ _ rfl rfl (by kernel_rfl)
        rw [if_pos (by rfl)]
        intro K hK
        clear hF hU hsz
        obtain ⟨q1, q2, q3⟩ := eval_rest a
        generalize hρ : a.eval = ρ
        rw [hρ] at q1 q2 q3 e11
        clear hρ
        have u1 := OpUp_value Try.prog K
        have u2 := OpUp_enter Try.prog K
        go_simp
        exact hK _ _ (Stood.refl _) rfl
      refine StepsOK.cons ?_ ?_
      · -- 4: Go.Op.fieldAddr 44 (Go.Operand.tmp 2) 1
        intro a w1 hR1 hF hU hsz
        have e2 : a.eval (.tmp 2) = _ := hU 2 (by kernel_rfl)
        rw [if_pos (by rfl)]
        intro K hK
        clear hF hU hsz
        obtain ⟨q1, q2, q3⟩ := eval_rest a
        generalize hρ : a.eval = ρ
        rw [hρ] at q1 q2 q3 e2
        clear hρ
        have u1 := OpUp_value Try.prog K
        have u2 := OpUp_enter Try.prog K
        go_simp
        exact hK _ _ (Stood.refl _) rfl
      refine StepsOK.cons ?_ ?_
      · -- 5: Go.Op.load 3 (Go.Operand.tmp 13)
        intro a w1 hR1 hF hU hsz
        have e13 : a.eval (.tmp 13) = _ := hF 4 _ _ rfl rfl (by kernel_rfl)
        rw [if_pos (by rfl)]
        intro K hK
        clear hF hU hsz
        have hz := ((Stood.cur hR1).cell (p := ⟨w.heap.size, 1, none⟩) hsz).trans c1
        obtain ⟨q1, q2, q3⟩ := eval_rest a
        generalize hρ : a.eval = ρ
        rw [hρ] at q1 q2 q3 e13
        clear hρ
        have u1 := OpUp_value Try.prog K
        have u2 := OpUp_enter Try.prog K
        go_simp
        exact hK _ _ (Stood.refl _) rfl
      refine StepsOK.cons ?_ ?_
      · -- 6: Go.Op.convert 3 22 (Go.Operand.tmp 14)
        intro a w1 hR1 hF hU hsz
        have e14 : a.eval (.tmp 14) = _ := hF 5 _ _ rfl rfl (by kernel_rfl)
        rw [if_pos (by rfl)]
        intro K hK
        clear hF hU hsz
        obtain ⟨q1, q2, q3⟩ := eval_rest a
        generalize hρ : a.eval = ρ
        rw [hρ] at q1 q2 q3 e14
        clear hρ
        have u1 := OpUp_value Try.prog K
        have u2 := OpUp_enter Try.prog K
        go_simp
        exact hK _ _ (Stood.refl _) rfl
      refine StepsOK.cons ?_ ?_
      · -- 7: Go.Op.fieldAddr 44 (Go.Operand.tmp 2) 2
        intro a w1 hR1 hF hU hsz
        have e2 : a.eval (.tmp 2) = _ := hU 2 (by kernel_rfl)
        rw [if_pos (by rfl)]
        intro K hK
        clear hF hU hsz
        obtain ⟨q1, q2, q3⟩ := eval_rest a
        generalize hρ : a.eval = ρ
        rw [hρ] at q1 q2 q3 e2
        clear hρ
        have u1 := OpUp_value Try.prog K
        have u2 := OpUp_enter Try.prog K
        go_simp
        exact hK _ _ (Stood.refl _) rfl
      refine StepsOK.cons ?_ ?_
      · -- 8: Go.Op.load 3 (Go.Operand.tmp 16)
        intro a w1 hR1 hF hU hsz
        have e16 : a.eval (.tmp 16) = _ := hF 7 _ _ rfl rfl (by kernel_rfl)
        rw [if_pos (by rfl)]
        intro K hK
        clear hF hU hsz
        have hz := ((Stood.cur hR1).cell (p := ⟨w.heap.size, 2, none⟩) hsz).trans c2
        obtain ⟨q1, q2, q3⟩ := eval_rest a
        generalize hρ : a.eval = ρ
        rw [hρ] at q1 q2 q3 e16
        clear hρ
        have u1 := OpUp_value Try.prog K
        have u2 := OpUp_enter Try.prog K
        go_simp
        exact hK _ _ (Stood.refl _) rfl
      refine StepsOK.cons ?_ ?_
      · -- 9: Go.Op.convert 3 22 (Go.Operand.tmp 17)
        intro a w1 hR1 hF hU hsz
        have e17 : a.eval (.tmp 17) = _ := hF 8 _ _ rfl rfl (by kernel_rfl)
        rw [if_pos (by rfl)]
        intro K hK
        clear hF hU hsz
        obtain ⟨q1, q2, q3⟩ := eval_rest a
        generalize hρ : a.eval = ρ
        rw [hρ] at q1 q2 q3 e17
        clear hρ
        have u1 := OpUp_value Try.prog K
        have u2 := OpUp_enter Try.prog K
        go_simp
        exact hK _ _ (Stood.refl _) rfl
      refine StepsOK.cons ?_ ?_
      · -- 10: Go.Op.fieldAddr 44 (Go.Operand.tmp 2) 3
        intro a w1 hR1 hF hU hsz
        have e2 : a.eval (.tmp 2) = _ := hU 2 (by kernel_rfl)
        rw [if_pos (by rfl)]
        intro K hK
        clear hF hU hsz
        obtain ⟨q1, q2, q3⟩ := eval_rest a
        generalize hρ : a.eval = ρ
        rw [hρ] at q1 q2 q3 e2
        clear hρ
        have u1 := OpUp_value Try.prog K
        have u2 := OpUp_enter Try.prog K
        go_simp
        exact hK _ _ (Stood.refl _) rfl
      refine StepsOK.cons ?_ ?_
      · -- 11: Go.Op.load 3 (Go.Operand.tmp 19)
        intro a w1 hR1 hF hU hsz
        have e19 : a.eval (.tmp 19) = _ := hF 10 _ _ rfl rfl (by kernel_rfl)
        rw [if_pos (by rfl)]
        intro K hK
        clear hF hU hsz
        have hz := ((Stood.cur hR1).cell (p := ⟨w.heap.size, 3, none⟩) hsz).trans c3
        obtain ⟨q1, q2, q3⟩ := eval_rest a
        generalize hρ : a.eval = ρ
        rw [hρ] at q1 q2 q3 e19
        clear hρ
        have u1 := OpUp_value Try.prog K
        have u2 := OpUp_enter Try.prog K
        go_simp
        exact hK _ _ (Stood.refl _) rfl
      refine StepsOK.cons ?_ ?_
      · -- 12: Go.Op.convert 3 22 (Go.Operand.tmp 20)
        intro a w1 hR1 hF hU hsz
        have e20 : a.eval (.tmp 20) = _ := hF 11 _ _ rfl rfl (by kernel_rfl)
        rw [if_pos (by rfl)]
        intro K hK
        clear hF hU hsz
        obtain ⟨q1, q2, q3⟩ := eval_rest a
        generalize hρ : a.eval = ρ
        rw [hρ] at q1 q2 q3 e20
        clear hρ
        have u1 := OpUp_value Try.prog K
        have u2 := OpUp_enter Try.prog K
        go_simp
        exact hK _ _ (Stood.refl _) rfl
      exact StepsOK.nil
    case hend =>
      intro vs0 w1 hR1 hH0
      obtain ⟨vs1, rfl, hH1⟩ := hH0.eq_
      obtain ⟨vs2, rfl, hH2⟩ := hH1.eq_
      obtain ⟨vs3, rfl, hH3⟩ := hH2.eq_
      obtain ⟨vs4, rfl, hH4⟩ := hH3.eq_
      obtain ⟨vs5, rfl, hH5⟩ := hH4.eq_
      obtain ⟨vs6, rfl, hH6⟩ := hH5.eq_
      obtain ⟨vs7, rfl, hH7⟩ := hH6.eq_
      obtain ⟨vs8, rfl, hH8⟩ := hH7.eq_
      obtain ⟨vs9, rfl, hH9⟩ := hH8.eq_
      obtain ⟨vs10, rfl, hH10⟩ := hH9.eq_
      obtain ⟨vs11, rfl, hH11⟩ := hH10.eq_
      obtain ⟨vs12, rfl, hH12⟩ := hH11.eq_
      obtain ⟨vs13, rfl, hH13⟩ := hH12.eq_
      obtain rfl := hH13.nil
      clear hH0 hH1 hH2 hH3 hH4 hH5 hH6 hH7 hH8 hH9 hH10 hH11 hH12 hH13
      simp only [List.take_succ_cons, List.take_zero, putAll, Act.put, List.setIfInBounds_toArray, List.set_cons_zero, List.set_cons_succ]
      have HW1 := Lib.hid (HW.out.trans ((Stood.cur hR1).mono HW.out.size))
      clear c0 c1 c2 c3 HW
      have hU5 : Value.int .u64 0 = U 0#64 := U_lit _ (by omega) (by omega)
      have HO1 := Lib.hid (show OwnU (w1.alloc (.cells #[U headM, U (BitVec.ofInt 64 b), U (BitVec.ofInt 64 n), U (BitVec.ofInt 64 c), U (BitVec.ofInt 64 k), U 0#64] 22)) w.heap.size (some ⟨w1.heap.size, 0, none⟩) hl 6 by
        rw [HL.out]
        exact OwnU.lit w1 w.heap.size [headM, w64 b, w64 n, w64 c, w64 k, 0#64] HW1.out.size (by unfold maxLen; simp))
      have HL6 := Lib.hid (show hl.length = 6 by rw [HL.out]; rfl)
      have HX := Lib.hid (HW1.out.alloc HW1.out.size (.cells #[U headM, U (BitVec.ofInt 64 b), U (BitVec.ofInt 64 n), U (BitVec.ofInt 64 c), U (BitVec.ofInt 64 k), U 0#64] 22))
      go_wp2_with fail
      generalize w1.alloc (.cells #[U headM, U (BitVec.ofInt 64 b), U (BitVec.ofInt 64 n), U (BitVec.ofInt 64 c), U (BitVec.ofInt 64 k), U 0#64] 22) = wx at *
      have KO := refOf_any hl (some ⟨w1.heap.size, 0, none⟩) 6 wx HO1.out.rd (by rw [HL6.out]; decide)
      rw [HL6.out] at KO
      refine KO.mono ?_
      rintro e w3 ⟨rfl, hd⟩
      have HX3 := Lib.hid (HX.out.trans ((hd.below _).mono HX.out.size))
      have HO3 := Lib.hid (HO1.out.below (hd.below _))
      clear hd HX HO1 HW1 KO hU5
      go_wp2_with (first | go_skip | (at_builtin; refine stop_ ?_))
      have hba : Below w3.heap.size w3 (w3.alloc (.cells #[U p, U (sealOf hl)] 22)) := (Below.refl _ _).alloc (Nat.le_refl _) _
      refine appU (.tmp 23) (.tmp 27) rfl rfl w.heap.size (some ⟨w1.heap.size, 0, none⟩) hl _ 6 rfl HL6.out.symm (HO3.out.below hba) (some ⟨w3.heap.size, 0, none⟩) [p, sealOf hl] 2 2 rfl rfl (RdU.new2 _ _ _ _) (by rw [HL6.out]; simp) (by have := HX3.out.size; simp; omega) ?_
      intro B ys d w4 hys hown hg4 _
      have HB4 := Lib.hid ((HX3.out.alloc HX3.out.size (.cells #[U p, U (sealOf hl)] 22)).grown hg4 (by have := HX3.out.size; simp; omega) (fun j hj => ((HO3.out.below hba).lt j hj).1))
      have HYL := Lib.hid (show ys.length = 8 by rw [hys, List.length_append, HL6.out]; rfl)
      have HO4 := Lib.hid (show OwnU w4 w.heap.size B [headM, w64 b, w64 n, w64 c, w64 k, 0#64, p, sealOf hl] d by
        have e : ys = [headM, w64 b, w64 n, w64 c, w64 k, 0#64, p, sealOf hl] := by rw [hys, HL.out]; rfl
        rw [← e]
        exact hown)
      clear hys hown hg4 hba
      unfold Stop
      go_wp2
      go_ret
      exact ⟨⟨B, d, by rw [HYL.out]; rfl, HO4.out⟩, HB4.out⟩
  · have hg' : g.good = false := by simpa using hg
    have e : headW g p = [] := by unfold headW; rw [hg']; rfl
    rw [e]
    rw [hg'] at KG
    clear hg hg' e
    obtain ⟨b, n, c, k⟩ := g
    simp only [Geo.v] at *
    have HW := Lib.hid ((Below.refl w.heap.size w).alloc (Nat.le_refl _) (.cells #[.int .i64 b, .int .i64 n, .int .i64 c, .int .i64 k] 44))
    go_enter Try.func32, Try.ntmps32
    go_wp2_with fail
    refine (KG.out _).mono ?_
    rintro e w2 ⟨rfl, hb⟩
    have HW := Lib.hid (HW.out.trans (hb.mono HW.out.size))
    clear hb
    go_wp2
    go_ret
    exact ⟨⟨none, 0, rfl, OwnU.nil_ _ _⟩, HW.out⟩
end Go.Proofs.Ytgkojedgamglgaa
