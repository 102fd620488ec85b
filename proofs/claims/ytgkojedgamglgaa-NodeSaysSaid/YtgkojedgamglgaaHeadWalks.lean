/- The walks of package head: Put, and slices.Equal of words. Condition: the slices can be read. -/
import Derived.Test.YtgkojedgamglgaaHeadPlain
import Derived.Test.YtgkojedgamglgaaSealWalks
import Derived.Test.YtgkojedgamglgaaGeom
import Derived.Test.YtgkojedgamglgaaFrame4
import Derived.Test.YtgkojedgamglgaaRegion
import Derived.Deep.RegionLawGrows
import Derived.Lib.SmallJoins
namespace Go.Proofs.Ytgkojedgamglgaa
open Go.RowKit
set_option linter.unusedVariables false
set_option linter.unusedSimpArgs false
/-- Words of the call's own: a fact that lasts. -/
def OwnUs (base : Nat) (xs : List (BitVec 64)) : Fact := fun v w => ∃ (B : Option Addr) (d : Nat), v = .slice B xs.length d ∧ OwnU w base B xs d
theorem stab_own {base : Nat} {xs : List (BitVec 64)} : Stab Stood (OwnUs base xs) := fun v w w' ⟨B, d, e, hr⟩ h => ⟨B, d, e, hr.below h⟩
/-- An append for which there is no room. -/
theorem append_full {w : World} {A B : Option Addr} {xs ys : List (BitVec 64)} {c c2 : Nat} (ty : TypeId) (base : Nat) (hbase : base ≤ w.heap.size) (hx : RdU w A xs) (hy : RdU w B ys) (h0 : 0 < xs.length) (h1 : 0 < ys.length) (hc : c < xs.length + ys.length) (hb : xs.length + ys.length ≤ 1048576) :
    ∃ B' d w', (Builtin.append_ #[28, 28] ty #[.slice A xs.length c, .slice B ys.length c2]).run Try.prog w = .ok (.slice B' (xs ++ ys).length d) w' ∧ OwnU w' base B' (xs ++ ys) d ∧ Below w.heap.size w w' := by
  obtain ⟨i, hi, hz0, hz1, hz2⟩ := info_parts infoU
  obtain ⟨b, off, rfl, hxc⟩ := hx.at_ h0
  obtain ⟨b2, off2, rfl, hyc⟩ := hy.at_ h1
  obtain ⟨v', w', hrun, hown, hg⟩ := run_append_arg_grows (P := Try.prog) w 28 ty 22 i _ 1 8 Try.underlying28 hi hz0 hz1 hz2 rfl (by omega) ⟨b, off, none⟩ xs.length c (xs.map U) (by simp)
    (fun j u hj => by
      rw [List.getElem?_map] at hj
      have hjl : j < xs.length := by
        by_cases h : j < xs.length
        · exact h
        · rw [List.getElem?_eq_none (by omega)] at hj; cases hj
      rw [List.getElem?_eq_getElem hjl] at hj
      cases hj
      rw [Addr.add_lit]
      exact hxc j hjl) ⟨b2, off2, none⟩ ys.length c2 (ys.map U) (by simp)
    (fun j u hj => by
      rw [List.getElem?_map] at hj
      have hjl : j < ys.length := by
        by_cases h : j < ys.length
        · exact h
        · rw [List.getElem?_eq_none (by omega)] at hj; cases hj
      rw [List.getElem?_eq_getElem hjl] at hj
      cases hj
      rw [Addr.add_lit]
      exact hyc j hjl) hc (by unfold maxLen; omega) (by omega)
  obtain ⟨g, cap, rfl⟩ := Go.Joins.ownsRow_form hown (by omega)
  refine ⟨some ⟨g, 0, none⟩, cap, w', by simpa using hrun, ?_, (Below.refl _ _).grown hg (Nat.le_refl _) (fun k h => by cases h)⟩
  unfold OwnU
  simpa using Go.Joins.ownsRow_le hown hbase
theorem head_cells {w1 w2 : World} {T : TypeId} {b n c k : Int} {p : BitVec 64} (h : Below (w1.alloc (.cells #[.int .i64 b, .int .i64 n, .int .i64 c, .int .i64 k, U p] T)).heap.size (w1.alloc (.cells #[.int .i64 b, .int .i64 n, .int .i64 c, .int .i64 k, U p] T)) w2) :
    w2.cell? ⟨w1.heap.size, 0, none⟩ = some (.int .i64 b) ∧ w2.cell? ⟨w1.heap.size, 1, none⟩ = some (.int .i64 n) ∧ w2.cell? ⟨w1.heap.size, 2, none⟩ = some (.int .i64 c) ∧ w2.cell? ⟨w1.heap.size, 3, none⟩ = some (.int .i64 k) ∧ w2.cell? ⟨w1.heap.size, 4, none⟩ = some (U p) := by
  have hl : w1.heap.size < (w1.alloc (.cells #[.int .i64 b, .int .i64 n, .int .i64 c, .int .i64 k, U p] T)).heap.size := by simp
  refine ⟨(h.cell (p := ⟨w1.heap.size, 0, none⟩) hl).trans ?_, (h.cell (p := ⟨w1.heap.size, 1, none⟩) hl).trans ?_, (h.cell (p := ⟨w1.heap.size, 2, none⟩) hl).trans ?_, (h.cell (p := ⟨w1.heap.size, 3, none⟩) hl).trans ?_, (h.cell (p := ⟨w1.heap.size, 4, none⟩) hl).trans ?_⟩ <;> go_simp
set_option maxRecDepth 100000 in
theorem hPut_any (g : Geo) (p : BitVec 64) (w : World) :
    Calls Try.prog 26 #[headV g p] w fun e w' => (∃ B d, e = .returned (.slice B (headW g p).length d) ∧ OwnU w' w.heap.size B (headW g p) d) ∧ Below w.heap.size w w' := by
  have KG := Lib.hid (fun W => ggood_any g W)
  by_cases hg : g.good = true
  · rw [headW_good hg]
    rw [hg] at KG
    have HL := Lib.hid (show headL g = [headM, w64 g.b, w64 g.n, w64 g.c, w64 g.k, 0#64] from rfl)
    generalize headL g = hl at *
    clear hg
    obtain ⟨b, n, c, k⟩ := g
    unfold headV
    simp only [Geo.v] at *
    have HW := Lib.hid ((Below.refl w.heap.size w).alloc (Nat.le_refl _) (.cells #[.int .i64 b, .int .i64 n, .int .i64 c, .int .i64 k, U p] 36))
    go_enter Try.func26, Try.ntmps26
    go_wp2_with fail
    refine (KG.out _).mono ?_
    rintro e w2 ⟨rfl, hb⟩
    obtain ⟨c0, c1, c2, c3, c4⟩ := head_cells hb
    have hsz : w.heap.size < w2.heap.size := by have := hb.size; simp at this; omega
    have HW := Lib.hid (HW.out.trans (hb.mono HW.out.size))
    clear hb
    have hU0 : Value.int .u64 5497010944029229057 = U headM := U_lit _ (by omega) (by omega)
    have hU5 : Value.int .u64 0 = U 0#64 := U_lit _ (by omega) (by omega)
    go_wp2_with fail
    have HO1 := Lib.hid (show OwnU (w2.alloc (.cells #[U headM, U (BitVec.ofInt 64 b), U (BitVec.ofInt 64 n), U (BitVec.ofInt 64 c), U (BitVec.ofInt 64 k), U 0#64] 22)) w.heap.size (some ⟨w2.heap.size, 0, none⟩) hl 6 by
      rw [HL.out]
      exact OwnU.lit w2 w.heap.size [headM, w64 b, w64 n, w64 c, w64 k, 0#64] HW.out.size (by unfold maxLen; simp))
    have HL6 := Lib.hid (show hl.length = 6 by rw [HL.out]; rfl)
    have HX := Lib.hid (HW.out.alloc HW.out.size (.cells #[U headM, U (BitVec.ofInt 64 b), U (BitVec.ofInt 64 n), U (BitVec.ofInt 64 c), U (BitVec.ofInt 64 k), U 0#64] 22))
    have c4' := (((Below.refl w2.heap.size w2).alloc (Nat.le_refl _) (.cells #[U headM, U (BitVec.ofInt 64 b), U (BitVec.ofInt 64 n), U (BitVec.ofInt 64 c), U (BitVec.ofInt 64 k), U 0#64] 22)).cell (p := ⟨w.heap.size, 4, none⟩) hsz).trans c4
    have KO := Lib.hid (show Calls Try.prog 74 #[.slice (some ⟨w2.heap.size, 0, none⟩) 6 6] (w2.alloc (.cells #[U headM, U (BitVec.ofInt 64 b), U (BitVec.ofInt 64 n), U (BitVec.ofInt 64 c), U (BitVec.ofInt 64 k), U 0#64] 22)).drew (fun e w' => e = .returned (U (sealOf hl)) ∧ w' = (w2.alloc (.cells #[U headM, U (BitVec.ofInt 64 b), U (BitVec.ofInt 64 n), U (BitVec.ofInt 64 c), U (BitVec.ofInt 64 k), U 0#64] 22)).drew) by
      have h := Of_any hl (some ⟨w2.heap.size, 0, none⟩) 6 _ (HO1.out.rd.drew) (by rw [HL6.out]; decide)
      rw [HL6.out] at h
      exact h.mono fun e w' hh => ⟨hh.1, hh.2.symm⟩)
    have hszx : w.heap.size < (w2.alloc (.cells #[U headM, U (BitVec.ofInt 64 b), U (BitVec.ofInt 64 n), U (BitVec.ofInt 64 c), U (BitVec.ofInt 64 k), U 0#64] 22)).heap.size := by simp; omega
    generalize w2.alloc (.cells #[U headM, U (BitVec.ofInt 64 b), U (BitVec.ofInt 64 n), U (BitVec.ofInt 64 c), U (BitVec.ofInt 64 k), U 0#64] 22) = wx at *
    clear hU0 hU5 c0 c1 c2 c3 c4
    apply wp_region_inv' 32 (Eqs _ :: Eqs _ :: Eqs _ :: Eqs _ :: Eqs _ :: RdUs [p, sealOf hl] :: (OwnUs w.heap.size (hl ++ [p, sealOf hl])) :: (OwnUs w.heap.size (hl ++ [p, sealOf hl])) :: []) (by kernel_rfl) (by rfl) (stab_cons (stab_eq _) (stab_cons (stab_eq _) (stab_cons (stab_eq _) (stab_cons (stab_eq _) (stab_cons (stab_eq _) (stab_cons stab_rdU (stab_cons stab_own (stab_cons stab_own stab_nil)))))))) (by kernel_rfl) (by kernel_rfl)
    case hstep =>
      refine StepsOK.cons ?_ ?_
      · -- 0: Go.Op.move (Go.Operand.tmp 3)
        intro a w1 hR1 hF hU hsz
        have e3 : a.eval (.tmp 3) = _ := hU 3 (by kernel_rfl)
        rw [if_pos (by rfl)]
        intro K hK
        clear hF hU hsz
        obtain ⟨q1, q2, q3⟩ := eval_rest a
        generalize hρ : a.eval = ρ
        rw [hρ] at q1 q2 q3 e3
        clear hρ
        have u1 := OpUp_value Try.prog K
        have u2 := OpUp_enter Try.prog K
        go_simp
        exact hK _ _ (Stood.refl _) rfl
      refine StepsOK.cons ?_ ?_
      · -- 1: Go.Op.fieldAddr 36 (Go.Operand.tmp 1) 1
        intro a w1 hR1 hF hU hsz
        have e1 : a.eval (.tmp 1) = _ := hU 1 (by kernel_rfl)
        rw [if_pos (by rfl)]
        intro K hK
        clear hF hU hsz
        obtain ⟨q1, q2, q3⟩ := eval_rest a
        generalize hρ : a.eval = ρ
        rw [hρ] at q1 q2 q3 e1
        clear hρ
        have u1 := OpUp_value Try.prog K
        have u2 := OpUp_enter Try.prog K
        go_simp
        exact hK _ _ (Stood.refl _) rfl
      refine StepsOK.cons ?_ ?_
      · -- 2: Go.Op.load 22 (Go.Operand.tmp 26)
        intro a w1 hR1 hF hU hsz
        have e26 : a.eval (.tmp 26) = _ := hF 1 _ _ rfl rfl (by kernel_rfl)
        rw [if_pos (by rfl)]
        intro K hK
        clear hF hU hsz
        have c4 := (((Below.refl wx.heap.size wx).drew.trans hR1).cell (p := ⟨w.heap.size, 4, none⟩) hszx).trans c4'
        obtain ⟨q1, q2, q3⟩ := eval_rest a
        generalize hρ : a.eval = ρ
        rw [hρ] at q1 q2 q3 e26
        clear hρ
        have u1 := OpUp_value Try.prog K
        have u2 := OpUp_enter Try.prog K
        go_simp
        exact hK _ _ (Stood.refl _) rfl
      refine StepsOK.cons ?_ ?_
      · -- 3: Go.Op.move (Go.Operand.tmp 3)
        intro a w1 hR1 hF hU hsz
        have e3 : a.eval (.tmp 3) = _ := hU 3 (by kernel_rfl)
        rw [if_pos (by rfl)]
        intro K hK
        clear hF hU hsz
        obtain ⟨q1, q2, q3⟩ := eval_rest a
        generalize hρ : a.eval = ρ
        rw [hρ] at q1 q2 q3 e3
        clear hρ
        have u1 := OpUp_value Try.prog K
        have u2 := OpUp_enter Try.prog K
        go_simp
        exact hK _ _ (Stood.refl _) rfl
      refine StepsOK.cons ?_ ?_
      · -- 4: Go.Op.call { callee := Go.Callee.value (Go.Operand.func 74), args := #[Go.Operan
        intro a w1 hR1 hF hU hsz
        have e28 : a.eval (.tmp 28) = _ := hF 3 _ _ rfl rfl (by kernel_rfl)
        rw [if_pos (by rfl)]
        intro K hK
        clear hF hU hsz
        obtain ⟨q1, q2, q3⟩ := eval_rest a
        generalize hρ : a.eval = ρ
        rw [hρ] at q1 q2 q3 e28
        clear hρ
        have u1 := OpUp_value Try.prog K
        have u2 := OpUp_enter Try.prog K
        go_simp
        have hof := Of_any hl (some ⟨w2.heap.size, 0, none⟩) 6 w1 (HO1.out.rd.below (Stood.cur hR1)) (by rw [HL6.out]; decide)
        rw [HL6.out] at hof
        refine hof.mono ?_
        rintro e w' ⟨rfl, rfl⟩
        exact ⟨_, rfl, hK _ _ (Stood.refl _) rfl⟩
      refine StepsOK.cons ?_ ?_
      · -- 5: Go.Op.buildSlice 28 2 #[(0, Go.Operand.tmp 27), (1, Go.Operand.tmp 29)]
        intro a w1 hR1 hF hU hsz
        have e27 : a.eval (.tmp 27) = _ := hF 2 _ _ rfl rfl (by kernel_rfl)
        have e29 : a.eval (.tmp 29) = _ := hF 4 _ _ rfl rfl (by kernel_rfl)
        rw [if_pos (by rfl)]
        intro K hK
        clear hF hU hsz
        obtain ⟨q1, q2, q3⟩ := eval_rest a
        generalize hρ : a.eval = ρ
        rw [hρ] at q1 q2 q3 e27 e29
        clear hρ
        have u1 := OpUp_value Try.prog K
        have u2 := OpUp_enter Try.prog K
        go_simp
        exact hK _ _ ((Below.refl _ _).alloc (Nat.le_refl _) _) ⟨_, _, rfl, RdU.new2 _ _ _ _, by unfold maxLen; simp⟩
      refine StepsOK.cons ?_ ?_
      · -- 6: Go.Op.call { callee := Go.Callee.builtin Go.Builtin.append, args := #[Go.Operand
        intro a w1 hR1 hF hU hsz
        have e25 : a.eval (.tmp 25) = _ := hF 0 _ _ rfl rfl (by kernel_rfl)
        have e30 := hF 5 _ _ rfl rfl (by kernel_rfl)
        obtain ⟨B30, d30, e30, r30, l30⟩ := e30
        have e30 : a.eval (.tmp 30) = _ := e30
        rw [if_pos (by rfl)]
        intro K hK
        clear hF hU hsz
        have hold := HO1.out.rd.below (Stood.cur hR1)
        obtain ⟨B6, d6, w6, hrun, hown6, hbel6⟩ := append_full (ty := 28) (c := 6) (c2 := d30) w.heap.size (by have := hR1.size; have := HX.out.size; simp at *; omega) hold r30 (by rw [HL6.out]; omega) (by simp) (by rw [HL6.out]; simp) (by rw [HL6.out]; simp)
        rw [HL6.out] at hrun
        obtain ⟨q1, q2, q3⟩ := eval_rest a
        generalize hρ : a.eval = ρ
        rw [hρ] at q1 q2 q3 e25 e30
        clear hρ
        have u1 := OpUp_value Try.prog K
        have u2 := OpUp_enter Try.prog K
        simp only [List.length_cons, List.length_nil, Nat.zero_add, Nat.reduceAdd] at hrun e30
        simp [execOp, resolve, invoke, builtin, e25, e30, hrun, Result.andThen, OpUp]
        exact hK _ _ hbel6 ⟨B6, d6, by first | rfl | (rw [List.length_append, HL6.out]; rfl) | (rw [List.length_append]; rfl), hown6⟩
      refine StepsOK.cons ?_ ?_
      · -- 7: Go.Op.assign (Go.Operand.tmp 31)
        intro a w1 hR1 hF hU hsz
        have e31 := hF 6 _ _ rfl rfl (by kernel_rfl)
        obtain ⟨B31, d31, e31, r31⟩ := e31
        have e31 : a.eval (.tmp 31) = _ := e31
        rw [if_pos (by rfl)]
        intro K hK
        clear hF hU hsz
        obtain ⟨q1, q2, q3⟩ := eval_rest a
        generalize hρ : a.eval = ρ
        rw [hρ] at q1 q2 q3 e31
        clear hρ
        have u1 := OpUp_value Try.prog K
        have u2 := OpUp_enter Try.prog K
        go_simp
        exact hK _ _ (Stood.refl _) ⟨B31, d31, by simp, r31⟩
      exact StepsOK.nil
    case hend =>
      intro vs0 w1 hR1 hH0
      obtain ⟨vs1, rfl, hH1⟩ := hH0.eq_
      obtain ⟨vs2, rfl, hH2⟩ := hH1.eq_
      obtain ⟨vs3, rfl, hH3⟩ := hH2.eq_
      obtain ⟨vs4, rfl, hH4⟩ := hH3.eq_
      obtain ⟨vs5, rfl, hH5⟩ := hH4.eq_
      obtain ⟨v5, vs6, rfl, hv5, hH6⟩ := hH5.cons
      obtain ⟨v6, vs7, rfl, hv6, hH7⟩ := hH6.cons
      obtain ⟨v7, vs8, rfl, hv7, hH8⟩ := hH7.cons
      obtain rfl := hH8.nil
      clear hH0 hH1 hH2 hH3 hH4 hH5 hH6 hH7 hH8
      simp only [putAll, Act.put, List.setIfInBounds_toArray, List.set_cons_zero, List.set_cons_succ]
      obtain ⟨B, d, rfl, hown⟩ := hv7
      have HOF := Lib.hid hown
      have HLN := Lib.hid (show (hl ++ [p, sealOf hl]).length = 8 by rw [List.length_append, HL6.out]; rfl)
      have HE := Lib.hid (fun S : BitVec 64 => show hl ++ [p, S] = [headM, w64 b, w64 n, w64 c, w64 k, 0#64, p, S] by rw [HL.out]; rfl)
      have HWF := Lib.hid (HX.out.trans ((Stood.cur hR1).mono HX.out.size))
      clear hv5 hv6
      rw [HLN.out]
      go_wp2
      go_ret
      exact ⟨⟨B, d, rfl, by rw [← HE.out]; exact HOF.out⟩, HWF.out⟩
  · have hg' : g.good = false := by simpa using hg
    rw [headW_bad hg]
    rw [hg'] at KG
    obtain ⟨b, n, c, k⟩ := g
    unfold headV
    simp only [Geo.v] at *
    have HW := Lib.hid ((Below.refl w.heap.size w).alloc (Nat.le_refl _) (.cells #[.int .i64 b, .int .i64 n, .int .i64 c, .int .i64 k, U p] 36))
    go_enter Try.func26, Try.ntmps26
    go_wp2_with fail
    refine (KG.out _).mono ?_
    rintro e w2 ⟨rfl, hb⟩
    have HW := Lib.hid (HW.out.trans (hb.mono HW.out.size))
    clear hb
    go_wp2
    go_ret
    exact ⟨⟨none, 0, rfl, OwnU.nil_ _ _⟩, HW.out⟩
end Go.Proofs.Ytgkojedgamglgaa
