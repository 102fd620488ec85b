/- Chapter 6: the reference's Bits, Node, Lost, Data. -/
import Derived.Test.YtgkojedgamglgaaRefGood
import Derived.Test.YtgkojedgamglgaaGeomNode
namespace Go.Proofs.Ytgkojedgamglgaa
open Go.RowKit
set_option linter.unusedVariables false
set_option linter.unusedSimpArgs false
theorem Geo.In.bounds {g : Geo} (h : g.In) : 17 ≤ g.fr ∧ g.fr ≤ 881 ∧ 1 ≤ g.bn ∧ g.bn ≤ 2 := by
  obtain ⟨p1, p2⟩ := h.prod
  obtain ⟨h1, h2, _⟩ := h
  unfold Geo.fr Geo.bn
  omega
set_option maxRecDepth 100000 in
theorem refBits_any (g : Geo) (w : World) :
    Calls Try.prog 123 #[g.v] w fun e w' => e = .returned (.tuple #[.int .i64 (if g.good = true then g.fr else 0), .int .i64 (if g.good = true then g.bn else 0)]) ∧ Below w.heap.size w w' := by
  have HG := Lib.hid (fun W => refGood_any g W)
  by_cases hg : g.good = true
  · obtain ⟨hIn, hdn⟩ := (Geo.good_iff g).1 hg
    obtain ⟨q1, q2, q3, q4⟩ := hIn.bounds
    have HD := Lib.hid (fun W => refBlocks_any g ⟨by have := hIn.1; omega, hIn.2.1⟩ W)
    obtain ⟨p1, p2⟩ := hIn.prod
    obtain ⟨r1, r2, r3, r4, r5, r6, r7, r8⟩ := hIn
    rw [hg] at HG
    rw [if_pos hg, if_pos hg]
    have e1 : IntKind.i64.wrap (g.c * g.k) = g.c * g.k := IntWalk.i64_in _ (by omega)
    have e2 : IntKind.i64.wrap (1 + g.c * g.k) = g.fr := by rw [IntWalk.i64_in _ (by omega)]; rfl
    generalize g.fr = fr at *
    generalize g.bn = bn at *
    clear hg hdn q1 q2 q3 q4 r1 r2 r3 r4 r5 r6 r7 r8
    obtain ⟨b, n, c, k⟩ := g
    simp only [Geo.v] at *
    have HW := Lib.hid ((Below.refl w.heap.size w).alloc (Nat.le_refl _) (.cells #[.int .i64 b, .int .i64 n, .int .i64 c, .int .i64 k] 44))
    go_enter Try.func123, Try.ntmps123
    go_wp2_with fail
    refine (HG.out _).mono ?_
    rintro e w2 ⟨rfl, hb⟩
    obtain ⟨c0, c1, c2, c3⟩ := geo_cells hb
    have HC := Lib.hid (fun (W : World) (h : Below w2.heap.size w2 W) => geo_cells (hb.trans (h.mono hb.size)))
    have HB2 := Lib.hid (Below.refl w2.heap.size w2)
    have HW := Lib.hid (HW.out.trans (hb.mono HW.out.size))
    clear hb
    go_wp2_with fail
    apply wp_region_inv' 15 (Eqs _ :: Eqs _ :: Eqs _ :: Eqs _ :: Eqs _ :: Eqs _ :: Eqs _ :: Eqs _ :: Eqs _ :: Eqs _ :: []) (by kernel_rfl) (by rfl) (stab_cons (stab_eq _) (stab_cons (stab_eq _) (stab_cons (stab_eq _) (stab_cons (stab_eq _) (stab_cons (stab_eq _) (stab_cons (stab_eq _) (stab_cons (stab_eq _) (stab_cons (stab_eq _) (stab_cons (stab_eq _) (stab_cons (stab_eq _) stab_nil)))))))))) (by kernel_rfl) (by kernel_rfl)
    case hstep =>
      refine StepsOK.cons ?_ ?_
      · -- 0: Go.Op.fieldAddr 62 (Go.Operand.tmp 1) 2
        intro a w1 hR1 hF hU hsz
        have e1 : a.eval (.tmp 1) = _ := hU 1 (by kernel_rfl)
        rw [if_pos (by rfl)]
        intro K hK
        clear hF hU hsz
        obtain ⟨q1, q2, q3⟩ := eval_rest a
        generalize hρ : a.eval = ρ
        rw [hρ] at q1 q2 q3 e1
        clear hρ
        have u1 := OpUp_value Try.prog K
        have u2 := OpUp_enter Try.prog K
        go_simp
        exact hK _ _ (Stood.refl _) rfl
      refine StepsOK.cons ?_ ?_
      · -- 1: Go.Op.load 3 (Go.Operand.tmp 7)
        intro a w1 hR1 hF hU hsz
        have e7 : a.eval (.tmp 7) = _ := hF 0 _ _ rfl rfl (by kernel_rfl)
        rw [if_pos (by rfl)]
        intro K hK
        clear hF hU hsz
        obtain ⟨c0, c1, c2, c3⟩ := HC.out _ (HB2.out.trans (Stood.cur hR1))
        obtain ⟨q1, q2, q3⟩ := eval_rest a
        generalize hρ : a.eval = ρ
        rw [hρ] at q1 q2 q3 e7
        clear hρ
        have u1 := OpUp_value Try.prog K
        have u2 := OpUp_enter Try.prog K
        go_simp
        exact hK _ _ (Stood.refl _) rfl
      refine StepsOK.cons ?_ ?_
      · -- 2: Go.Op.fieldAddr 62 (Go.Operand.tmp 1) 3
        intro a w1 hR1 hF hU hsz
        have e1 : a.eval (.tmp 1) = _ := hU 1 (by kernel_rfl)
        rw [if_pos (by rfl)]
        intro K hK
        clear hF hU hsz
        obtain ⟨q1, q2, q3⟩ := eval_rest a
        generalize hρ : a.eval = ρ
        rw [hρ] at q1 q2 q3 e1
        clear hρ
        have u1 := OpUp_value Try.prog K
        have u2 := OpUp_enter Try.prog K
        go_simp
        exact hK _ _ (Stood.refl _) rfl
      refine StepsOK.cons ?_ ?_
      · -- 3: Go.Op.load 3 (Go.Operand.tmp 9)
        intro a w1 hR1 hF hU hsz
        have e9 : a.eval (.tmp 9) = _ := hF 2 _ _ rfl rfl (by kernel_rfl)
        rw [if_pos (by rfl)]
        intro K hK
        clear hF hU hsz
        obtain ⟨c0, c1, c2, c3⟩ := HC.out _ (HB2.out.trans (Stood.cur hR1))
        obtain ⟨q1, q2, q3⟩ := eval_rest a
        generalize hρ : a.eval = ρ
        rw [hρ] at q1 q2 q3 e9
        clear hρ
        have u1 := OpUp_value Try.prog K
        have u2 := OpUp_enter Try.prog K
        go_simp
        exact hK _ _ (Stood.refl _) rfl
      refine StepsOK.cons ?_ ?_
      · -- 4: Go.Op.binOp Go.BinOp.mul 3 (Go.Operand.tmp 8) (Go.Operand.tmp 10) 3
        intro a w1 hR1 hF hU hsz
        have e8 : a.eval (.tmp 8) = _ := hF 1 _ _ rfl rfl (by kernel_rfl)
        have e10 : a.eval (.tmp 10) = _ := hF 3 _ _ rfl rfl (by kernel_rfl)
        rw [if_pos (by rfl)]
        intro K hK
        clear hF hU hsz
        obtain ⟨q1, q2, q3⟩ := eval_rest a
        generalize hρ : a.eval = ρ
        rw [hρ] at q1 q2 q3 e8 e10
        clear hρ
        have u1 := OpUp_value Try.prog K
        have u2 := OpUp_enter Try.prog K
        go_simp
        exact hK _ _ (Stood.refl _) rfl
      refine StepsOK.cons ?_ ?_
      · -- 5: Go.Op.binOp Go.BinOp.add 3 (Go.Operand.const (Go.Value.int Go.IntKind.i64 1)) (G
        intro a w1 hR1 hF hU hsz
        have e11 : a.eval (.tmp 11) = _ := hF 4 _ _ rfl rfl (by kernel_rfl)
        rw [if_pos (by rfl)]
        intro K hK
        clear hF hU hsz
        obtain ⟨q1, q2, q3⟩ := eval_rest a
        generalize hρ : a.eval = ρ
        rw [hρ] at q1 q2 q3 e11
        clear hρ
        have u1 := OpUp_value Try.prog K
        have u2 := OpUp_enter Try.prog K
        go_simp
        exact hK _ _ (Stood.refl _) rfl
      refine StepsOK.cons ?_ ?_
      · -- 6: Go.Op.load 62 (Go.Operand.tmp 1)
        intro a w1 hR1 hF hU hsz
        have e1 : a.eval (.tmp 1) = _ := hU 1 (by kernel_rfl)
        rw [if_pos (by rfl)]
        intro K hK
        clear hF hU hsz
        obtain ⟨c0, c1, c2, c3⟩ := HC.out _ (HB2.out.trans (Stood.cur hR1))
        obtain ⟨q1, q2, q3⟩ := eval_rest a
        generalize hρ : a.eval = ρ
        rw [hρ] at q1 q2 q3 e1
        clear hρ
        have u1 := OpUp_value Try.prog K
        have u2 := OpUp_enter Try.prog K
        go_simp
        exact hK _ _ (Stood.refl _) rfl
      refine StepsOK.cons ?_ ?_
      · -- 7: Go.Op.call { callee := Go.Callee.value (Go.Operand.func 68), args := #[Go.Operan
        intro a w1 hR1 hF hU hsz
        have e13 : a.eval (.tmp 13) = _ := hF 6 _ _ rfl rfl (by kernel_rfl)
        rw [if_pos (by rfl)]
        intro K hK
        clear hF hU hsz
        obtain ⟨q1, q2, q3⟩ := eval_rest a
        generalize hρ : a.eval = ρ
        rw [hρ] at q1 q2 q3 e13
        clear hρ
        have u1 := OpUp_value Try.prog K
        have u2 := OpUp_enter Try.prog K
        go_simp
        refine (HD.out _).mono ?_
        rintro e w' ⟨rfl, hb⟩
        exact ⟨_, rfl, hK _ _ hb rfl⟩
      refine StepsOK.cons ?_ ?_
      · -- 8: Go.Op.assign (Go.Operand.tmp 12)
        intro a w1 hR1 hF hU hsz
        have e12 : a.eval (.tmp 12) = _ := hF 5 _ _ rfl rfl (by kernel_rfl)
        rw [if_pos (by rfl)]
        intro K hK
        clear hF hU hsz
        obtain ⟨q1, q2, q3⟩ := eval_rest a
        generalize hρ : a.eval = ρ
        rw [hρ] at q1 q2 q3 e12
        clear hρ
        have u1 := OpUp_value Try.prog K
        have u2 := OpUp_enter Try.prog K
        go_simp
        exact hK _ _ (Stood.refl _) rfl
      refine StepsOK.cons ?_ ?_
      · -- 9: Go.Op.assign (Go.Operand.tmp 14)
        intro a w1 hR1 hF hU hsz
        have e14 : a.eval (.tmp 14) = _ := hF 7 _ _ rfl rfl (by kernel_rfl)
        rw [if_pos (by rfl)]
        intro K hK
        clear hF hU hsz
        obtain ⟨q1, q2, q3⟩ := eval_rest a
        generalize hρ : a.eval = ρ
        rw [hρ] at q1 q2 q3 e14
        clear hρ
        have u1 := OpUp_value Try.prog K
        have u2 := OpUp_enter Try.prog K
        go_simp
        exact hK _ _ (Stood.refl _) rfl
      exact StepsOK.nil
    case hend =>
      intro vs0 w1 hR1 hH0
      obtain ⟨vs1, rfl, hH1⟩ := hH0.eq_
      obtain ⟨vs2, rfl, hH2⟩ := hH1.eq_
      obtain ⟨vs3, rfl, hH3⟩ := hH2.eq_
      obtain ⟨vs4, rfl, hH4⟩ := hH3.eq_
      obtain ⟨vs5, rfl, hH5⟩ := hH4.eq_
      obtain ⟨vs6, rfl, hH6⟩ := hH5.eq_
      obtain ⟨vs7, rfl, hH7⟩ := hH6.eq_
      obtain ⟨vs8, rfl, hH8⟩ := hH7.eq_
      obtain ⟨vs9, rfl, hH9⟩ := hH8.eq_
      obtain ⟨vs10, rfl, hH10⟩ := hH9.eq_
      obtain rfl := hH10.nil
      clear hH0 hH1 hH2 hH3 hH4 hH5 hH6 hH7 hH8 hH9 hH10
      simp only [putAll, Act.put, List.setIfInBounds_toArray, List.set_cons_zero, List.set_cons_succ]
      have HW := Lib.hid (HW.out.trans ((Stood.cur hR1).mono HW.out.size))
      go_wp2
      go_ret2
      exact ⟨rfl, HW.out⟩
  · have hg' : g.good = false := by simpa using hg
    rw [hg'] at HG
    have hz : ∀ a : Int, (if g.good = true then a else 0) = 0 := fun a => if_neg hg
    have hz2 : ∀ (p : Prop) [Decidable p] (a : Int), (if g.good = true ∧ p then a else 0) = 0 := fun p _ a => if_neg (fun h => hg h.1)
    simp only [Geo.nd, hz, hz2]
    clear hz hz2 hg hg'
    obtain ⟨b, n, c, k⟩ := g
    simp only [Geo.v] at *
    have HW := Lib.hid ((Below.refl w.heap.size w).alloc (Nat.le_refl _) (.cells #[.int .i64 b, .int .i64 n, .int .i64 c, .int .i64 k] 44))
    go_enter Try.func123, Try.ntmps123
    go_wp2_with fail
    refine (HG.out _).mono ?_
    rintro e w2 ⟨rfl, hb⟩
    obtain ⟨c0, c1, c2, c3⟩ := geo_cells hb
    have HC := Lib.hid (fun (W : World) (h : Below w2.heap.size w2 W) => geo_cells (hb.trans (h.mono hb.size)))
    have HB2 := Lib.hid (Below.refl w2.heap.size w2)
    have HW := Lib.hid (HW.out.trans (hb.mono HW.out.size))
    clear hb
    go_wp2
    go_ret2
    exact ⟨rfl, HW.out⟩
set_option maxRecDepth 100000 in
theorem refNode_any (g : Geo) (m : Int) (w : World) :
    Calls Try.prog 120 #[g.v, .int .i64 m] w fun e w' => e = .returned (.int .i64 (g.nd m)) ∧ Below w.heap.size w w' := by
  have HG := Lib.hid (fun W => refGood_any g W)
  by_cases hg : g.good = true
  · obtain ⟨hIn, hdn⟩ := (Geo.good_iff g).1 hg
    obtain ⟨q1, q2, q3, q4⟩ := hIn.bounds
    have HD := Lib.hid (fun W => refBits_any g W)
    obtain ⟨r1, r2, r3, r4, r5, r6, r7, r8⟩ := hIn
    rw [hg] at HG
    by_cases hm : 1 ≤ m ∧ m ≤ g.n
    · have hnd : g.nd m = g.fr + g.bn + m - 1 := by unfold Geo.nd; rw [if_pos ⟨hg, hm⟩]
      simp only [if_pos hg] at HD
      have e1 : IntKind.i64.wrap (g.fr + g.bn) = g.fr + g.bn := IntWalk.i64_in _ (by omega)
      have e2 : IntKind.i64.wrap (g.fr + g.bn + m) = g.fr + g.bn + m := IntWalk.i64_in _ (by omega)
      have e3 : IntKind.i64.wrap (g.fr + g.bn + m - 1) = g.fr + g.bn + m - 1 := IntWalk.i64_in _ (by omega)
      rw [hnd]
      have hm1 : ¬ m < 1 := by omega
      have hm2 : ¬ g.n < m := by omega
      clear hnd
      generalize g.fr = fr at *
      generalize g.bn = bn at *
      clear hg hdn q1 q2 q3 q4 r1 r2 r3 r4 r5 r6 r7 r8
      obtain ⟨b, n, c, k⟩ := g
      simp only [Geo.v] at *
      have HW := Lib.hid ((Below.refl w.heap.size w).alloc (Nat.le_refl _) (.cells #[.int .i64 b, .int .i64 n, .int .i64 c, .int .i64 k] 44))
      go_enter Try.func120, Try.ntmps120
      go_wp2_with fail
      refine (HG.out _).mono ?_
      rintro e w2 ⟨rfl, hb⟩
      obtain ⟨c0, c1, c2, c3⟩ := geo_cells hb
      have HC := Lib.hid (fun (W : World) (h : Below w2.heap.size w2 W) => geo_cells (hb.trans (h.mono hb.size)))
      have HB2 := Lib.hid (Below.refl w2.heap.size w2)
      have HW := Lib.hid (HW.out.trans (hb.mono HW.out.size))
      clear hb
      go_wp2_with fail
      refine (HD.out _).mono ?_
      rintro e w3 ⟨rfl, hb⟩
      obtain ⟨c0, c1, c2, c3⟩ := HC.out _ (HB2.out.trans (hb.mono HB2.out.size))
      have HB2 := Lib.hid (HB2.out.trans (hb.mono HB2.out.size))
      have HW := Lib.hid (HW.out.trans (hb.mono HW.out.size))
      clear hb
      go_wp2
      go_ret
      exact ⟨rfl, HW.out⟩
    · have hnd : g.nd m = 0 := by unfold Geo.nd; rw [if_neg (fun h => hm h.2)]
      rw [hnd]
      clear hnd HD
      generalize g.fr = fr at *
      generalize g.bn = bn at *
      clear hg hdn q1 q2 q3 q4 r1 r2 r3 r4 r5 r6 r7 r8
      obtain ⟨b, n, c, k⟩ := g
      simp only [Geo.v] at *
      have HW := Lib.hid ((Below.refl w.heap.size w).alloc (Nat.le_refl _) (.cells #[.int .i64 b, .int .i64 n, .int .i64 c, .int .i64 k] 44))
      go_enter Try.func120, Try.ntmps120
      rcases Int.lt_or_le m 1 with hm1 | hm1
      · go_wp2_with fail
        refine (HG.out _).mono ?_
        rintro e w2 ⟨rfl, hb⟩
        obtain ⟨c0, c1, c2, c3⟩ := geo_cells hb
        have HC := Lib.hid (fun (W : World) (h : Below w2.heap.size w2 W) => geo_cells (hb.trans (h.mono hb.size)))
        have HB2 := Lib.hid (Below.refl w2.heap.size w2)
        have HW := Lib.hid (HW.out.trans (hb.mono HW.out.size))
        clear hb
        go_wp2
        go_ret
        exact ⟨rfl, HW.out⟩
      · have hm2 : n < m := by omega
        have hm3 : ¬ m < 1 := by omega
        go_wp2_with fail
        refine (HG.out _).mono ?_
        rintro e w2 ⟨rfl, hb⟩
        obtain ⟨c0, c1, c2, c3⟩ := geo_cells hb
        have HC := Lib.hid (fun (W : World) (h : Below w2.heap.size w2 W) => geo_cells (hb.trans (h.mono hb.size)))
        have HB2 := Lib.hid (Below.refl w2.heap.size w2)
        have HW := Lib.hid (HW.out.trans (hb.mono HW.out.size))
        clear hb
        go_wp2
        go_ret
        exact ⟨rfl, HW.out⟩
  · have hg' : g.good = false := by simpa using hg
    rw [hg'] at HG
    have hz : ∀ a : Int, (if g.good = true then a else 0) = 0 := fun a => if_neg hg
    have hz2 : ∀ (p : Prop) [Decidable p] (a : Int), (if g.good = true ∧ p then a else 0) = 0 := fun p _ a => if_neg (fun h => hg h.1)
    simp only [Geo.nd, hz, hz2]
    clear hz hz2 hg hg'
    obtain ⟨b, n, c, k⟩ := g
    simp only [Geo.v] at *
    have HW := Lib.hid ((Below.refl w.heap.size w).alloc (Nat.le_refl _) (.cells #[.int .i64 b, .int .i64 n, .int .i64 c, .int .i64 k] 44))
    go_enter Try.func120, Try.ntmps120
    go_wp2_with fail
    refine (HG.out _).mono ?_
    rintro e w2 ⟨rfl, hb⟩
    obtain ⟨c0, c1, c2, c3⟩ := geo_cells hb
    have HC := Lib.hid (fun (W : World) (h : Below w2.heap.size w2 W) => geo_cells (hb.trans (h.mono hb.size)))
    have HB2 := Lib.hid (Below.refl w2.heap.size w2)
    have HW := Lib.hid (HW.out.trans (hb.mono HW.out.size))
    clear hb
    go_wp2
    go_ret
    exact ⟨rfl, HW.out⟩
set_option maxRecDepth 100000 in
theorem refLost_any (g : Geo) (w : World) :
    Calls Try.prog 112 #[g.v] w fun e w' => e = .returned (.tuple #[.int .i64 (if g.good = true then (g.fr + g.bn + g.n) else 0), .int .i64 (if g.good = true then g.n else 0)]) ∧ Below w.heap.size w w' := by
  have HG := Lib.hid (fun W => refGood_any g W)
  by_cases hg : g.good = true
  · obtain ⟨hIn, hdn⟩ := (Geo.good_iff g).1 hg
    obtain ⟨q1, q2, q3, q4⟩ := hIn.bounds
    have HD := Lib.hid (fun W => refNode_any g g.n W)
    obtain ⟨r1, r2, r3, r4, r5, r6, r7, r8⟩ := hIn
    rw [hg] at HG
    have hnd : g.nd g.n = g.fr + g.bn + g.n - 1 := by unfold Geo.nd; rw [if_pos ⟨hg, by omega, by omega⟩]
    rw [hnd] at HD
    rw [if_pos hg, if_pos hg]
    clear hnd
    have e1 : IntKind.i64.wrap (g.fr + g.bn + g.n) = g.fr + g.bn + g.n := IntWalk.i64_in _ (by omega)
    generalize g.fr = fr at *
    generalize g.bn = bn at *
    clear hg hdn q1 q2 q3 q4 r1 r2 r3 r4 r5 r6 r7 r8
    obtain ⟨b, n, c, k⟩ := g
    simp only [Geo.v] at *
    have HW := Lib.hid ((Below.refl w.heap.size w).alloc (Nat.le_refl _) (.cells #[.int .i64 b, .int .i64 n, .int .i64 c, .int .i64 k] 44))
    go_enter Try.func112, Try.ntmps112
    go_wp2_with fail
    refine (HG.out _).mono ?_
    rintro e w2 ⟨rfl, hb⟩
    obtain ⟨c0, c1, c2, c3⟩ := geo_cells hb
    have HC := Lib.hid (fun (W : World) (h : Below w2.heap.size w2 W) => geo_cells (hb.trans (h.mono hb.size)))
    have HB2 := Lib.hid (Below.refl w2.heap.size w2)
    have HW := Lib.hid (HW.out.trans (hb.mono HW.out.size))
    clear hb
    go_wp2_with fail
    apply wp_region_inv' 14 (Eqs _ :: Eqs _ :: Eqs _ :: Eqs _ :: Eqs _ :: Eqs _ :: Eqs _ :: Eqs _ :: Eqs _ :: []) (by kernel_rfl) (by rfl) (stab_cons (stab_eq _) (stab_cons (stab_eq _) (stab_cons (stab_eq _) (stab_cons (stab_eq _) (stab_cons (stab_eq _) (stab_cons (stab_eq _) (stab_cons (stab_eq _) (stab_cons (stab_eq _) (stab_cons (stab_eq _) stab_nil))))))))) (by kernel_rfl) (by kernel_rfl)
    case hstep =>
      refine StepsOK.cons ?_ ?_
      · -- 0: Go.Op.load 62 (Go.Operand.tmp 1)
        intro a w1 hR1 hF hU hsz
        have e1 : a.eval (.tmp 1) = _ := hU 1 (by kernel_rfl)
        rw [if_pos (by rfl)]
        intro K hK
        clear hF hU hsz
        obtain ⟨c0, c1, c2, c3⟩ := HC.out _ (HB2.out.trans (Stood.cur hR1))
        obtain ⟨q1, q2, q3⟩ := eval_rest a
        generalize hρ : a.eval = ρ
        rw [hρ] at q1 q2 q3 e1
        clear hρ
        have u1 := OpUp_value Try.prog K
        have u2 := OpUp_enter Try.prog K
        go_simp
        exact hK _ _ (Stood.refl _) rfl
      refine StepsOK.cons ?_ ?_
      · -- 1: Go.Op.fieldAddr 62 (Go.Operand.tmp 1) 1
        intro a w1 hR1 hF hU hsz
        have e1 : a.eval (.tmp 1) = _ := hU 1 (by kernel_rfl)
        rw [if_pos (by rfl)]
        intro K hK
        clear hF hU hsz
        obtain ⟨q1, q2, q3⟩ := eval_rest a
        generalize hρ : a.eval = ρ
        rw [hρ] at q1 q2 q3 e1
        clear hρ
        have u1 := OpUp_value Try.prog K
        have u2 := OpUp_enter Try.prog K
        go_simp
        exact hK _ _ (Stood.refl _) rfl
      refine StepsOK.cons ?_ ?_
      · -- 2: Go.Op.load 3 (Go.Operand.tmp 8)
        intro a w1 hR1 hF hU hsz
        have e8 : a.eval (.tmp 8) = _ := hF 1 _ _ rfl rfl (by kernel_rfl)
        rw [if_pos (by rfl)]
        intro K hK
        clear hF hU hsz
        obtain ⟨c0, c1, c2, c3⟩ := HC.out _ (HB2.out.trans (Stood.cur hR1))
        obtain ⟨q1, q2, q3⟩ := eval_rest a
        generalize hρ : a.eval = ρ
        rw [hρ] at q1 q2 q3 e8
        clear hρ
        have u1 := OpUp_value Try.prog K
        have u2 := OpUp_enter Try.prog K
        go_simp
        exact hK _ _ (Stood.refl _) rfl
      refine StepsOK.cons ?_ ?_
      · -- 3: Go.Op.call { callee := Go.Callee.value (Go.Operand.func 52), args := #[Go.Operan
        intro a w1 hR1 hF hU hsz
        have e7 : a.eval (.tmp 7) = _ := hF 0 _ _ rfl rfl (by kernel_rfl)
        have e9 : a.eval (.tmp 9) = _ := hF 2 _ _ rfl rfl (by kernel_rfl)
        rw [if_pos (by rfl)]
        intro K hK
        clear hF hU hsz
        obtain ⟨q1, q2, q3⟩ := eval_rest a
        generalize hρ : a.eval = ρ
        rw [hρ] at q1 q2 q3 e7 e9
        clear hρ
        have u1 := OpUp_value Try.prog K
        have u2 := OpUp_enter Try.prog K
        go_simp
        refine (HD.out _).mono ?_
        rintro e w' ⟨rfl, hb⟩
        exact ⟨_, rfl, hK _ _ hb rfl⟩
      refine StepsOK.cons ?_ ?_
      · -- 4: Go.Op.binOp Go.BinOp.add 3 (Go.Operand.tmp 10) (Go.Operand.const (Go.Value.int G
        intro a w1 hR1 hF hU hsz
        have e10 : a.eval (.tmp 10) = _ := hF 3 _ _ rfl rfl (by kernel_rfl)
        rw [if_pos (by rfl)]
        intro K hK
        clear hF hU hsz
        obtain ⟨q1, q2, q3⟩ := eval_rest a
        generalize hρ : a.eval = ρ
        rw [hρ] at q1 q2 q3 e10
        clear hρ
        have u1 := OpUp_value Try.prog K
        have u2 := OpUp_enter Try.prog K
        go_simp
        exact hK _ _ (Stood.refl _) rfl
      refine StepsOK.cons ?_ ?_
      · -- 5: Go.Op.fieldAddr 62 (Go.Operand.tmp 1) 1
        intro a w1 hR1 hF hU hsz
        have e1 : a.eval (.tmp 1) = _ := hU 1 (by kernel_rfl)
        rw [if_pos (by rfl)]
        intro K hK
        clear hF hU hsz
        obtain ⟨q1, q2, q3⟩ := eval_rest a
        generalize hρ : a.eval = ρ
        rw [hρ] at q1 q2 q3 e1
        clear hρ
        have u1 := OpUp_value Try.prog K
        have u2 := OpUp_enter Try.prog K
        go_simp
        exact hK _ _ (Stood.refl _) rfl
      refine StepsOK.cons ?_ ?_
      · -- 6: Go.Op.load 3 (Go.Operand.tmp 12)
        intro a w1 hR1 hF hU hsz
        have e12 : a.eval (.tmp 12) = _ := hF 5 _ _ rfl rfl (by kernel_rfl)
        rw [if_pos (by rfl)]
        intro K hK
        clear hF hU hsz
        obtain ⟨c0, c1, c2, c3⟩ := HC.out _ (HB2.out.trans (Stood.cur hR1))
        obtain ⟨q1, q2, q3⟩ := eval_rest a
        generalize hρ : a.eval = ρ
        rw [hρ] at q1 q2 q3 e12
        clear hρ
        have u1 := OpUp_value Try.prog K
        have u2 := OpUp_enter Try.prog K
        go_simp
        exact hK _ _ (Stood.refl _) rfl
      refine StepsOK.cons ?_ ?_
      · -- 7: Go.Op.assign (Go.Operand.tmp 11)
        intro a w1 hR1 hF hU hsz
        have e11 : a.eval (.tmp 11) = _ := hF 4 _ _ rfl rfl (by kernel_rfl)
        rw [if_pos (by rfl)]
        intro K hK
        clear hF hU hsz
        obtain ⟨q1, q2, q3⟩ := eval_rest a
        generalize hρ : a.eval = ρ
        rw [hρ] at q1 q2 q3 e11
        clear hρ
        have u1 := OpUp_value Try.prog K
        have u2 := OpUp_enter Try.prog K
        go_simp
        exact hK _ _ (Stood.refl _) rfl
      refine StepsOK.cons ?_ ?_
      · -- 8: Go.Op.assign (Go.Operand.tmp 13)
        intro a w1 hR1 hF hU hsz
        have e13 : a.eval (.tmp 13) = _ := hF 6 _ _ rfl rfl (by kernel_rfl)
        rw [if_pos (by rfl)]
        intro K hK
        clear hF hU hsz
        obtain ⟨q1, q2, q3⟩ := eval_rest a
        generalize hρ : a.eval = ρ
        rw [hρ] at q1 q2 q3 e13
        clear hρ
        have u1 := OpUp_value Try.prog K
        have u2 := OpUp_enter Try.prog K
        go_simp
        exact hK _ _ (Stood.refl _) rfl
      exact StepsOK.nil
    case hend =>
      intro vs0 w1 hR1 hH0
      obtain ⟨vs1, rfl, hH1⟩ := hH0.eq_
      obtain ⟨vs2, rfl, hH2⟩ := hH1.eq_
      obtain ⟨vs3, rfl, hH3⟩ := hH2.eq_
      obtain ⟨vs4, rfl, hH4⟩ := hH3.eq_
      obtain ⟨vs5, rfl, hH5⟩ := hH4.eq_
      obtain ⟨vs6, rfl, hH6⟩ := hH5.eq_
      obtain ⟨vs7, rfl, hH7⟩ := hH6.eq_
      obtain ⟨vs8, rfl, hH8⟩ := hH7.eq_
      obtain ⟨vs9, rfl, hH9⟩ := hH8.eq_
      obtain rfl := hH9.nil
      clear hH0 hH1 hH2 hH3 hH4 hH5 hH6 hH7 hH8 hH9
      simp only [putAll, Act.put, List.setIfInBounds_toArray, List.set_cons_zero, List.set_cons_succ]
      have HW := Lib.hid (HW.out.trans ((Stood.cur hR1).mono HW.out.size))
      go_wp2
      go_ret2
      exact ⟨rfl, HW.out⟩
  · have hg' : g.good = false := by simpa using hg
    rw [hg'] at HG
    have hz : ∀ a : Int, (if g.good = true then a else 0) = 0 := fun a => if_neg hg
    have hz2 : ∀ (p : Prop) [Decidable p] (a : Int), (if g.good = true ∧ p then a else 0) = 0 := fun p _ a => if_neg (fun h => hg h.1)
    simp only [Geo.nd, hz, hz2]
    clear hz hz2 hg hg'
    obtain ⟨b, n, c, k⟩ := g
    simp only [Geo.v] at *
    have HW := Lib.hid ((Below.refl w.heap.size w).alloc (Nat.le_refl _) (.cells #[.int .i64 b, .int .i64 n, .int .i64 c, .int .i64 k] 44))
    go_enter Try.func112, Try.ntmps112
    go_wp2_with fail
    refine (HG.out _).mono ?_
    rintro e w2 ⟨rfl, hb⟩
    obtain ⟨c0, c1, c2, c3⟩ := geo_cells hb
    have HC := Lib.hid (fun (W : World) (h : Below w2.heap.size w2 W) => geo_cells (hb.trans (h.mono hb.size)))
    have HB2 := Lib.hid (Below.refl w2.heap.size w2)
    have HW := Lib.hid (HW.out.trans (hb.mono HW.out.size))
    clear hb
    go_wp2
    go_ret2
    exact ⟨rfl, HW.out⟩
set_option maxRecDepth 100000 in
theorem refData_any (g : Geo) (w : World) :
    Calls Try.prog 93 #[g.v] w fun e w' => e = .returned (.tuple #[.int .i64 (if g.good = true then g.df else 0), .int .i64 (if g.good = true then g.dn else 0)]) ∧ Below w.heap.size w w' := by
  have HG := Lib.hid (fun W => refGood_any g W)
  by_cases hg : g.good = true
  · obtain ⟨hIn, hdn⟩ := (Geo.good_iff g).1 hg
    obtain ⟨q1, q2, q3, q4⟩ := hIn.bounds
    have HD := Lib.hid (fun W => refLost_any g W)
    obtain ⟨r1, r2, r3, r4, r5, r6, r7, r8⟩ := hIn
    rw [hg] at HG
    simp only [if_pos hg] at HD
    rw [if_pos hg, if_pos hg]
    have e1 : IntKind.i64.wrap (g.fr + g.bn + g.n + g.n) = g.df := by rw [IntWalk.i64_in _ (by omega)]; unfold Geo.df; omega
    have e2 : IntKind.i64.wrap (g.b - 1) = g.b - 1 := IntWalk.i64_in _ (by omega)
    have e3 : IntKind.i64.wrap (g.b - 1 - (g.fr + g.bn + g.n)) = g.b - 1 - (g.fr + g.bn + g.n) := IntWalk.i64_in _ (by omega)
    have e4 : IntKind.i64.wrap (g.b - 1 - (g.fr + g.bn + g.n) - g.n) = g.dn := by rw [IntWalk.i64_in _ (by omega)]; unfold Geo.dn Geo.df; omega
    generalize g.fr = fr at *
    generalize g.bn = bn at *
    generalize g.df = df at *
    generalize g.dn = dn at *
    clear hg hdn q1 q2 q3 q4 r1 r2 r3 r4 r5 r6 r7 r8
    obtain ⟨b, n, c, k⟩ := g
    simp only [Geo.v] at *
    have HW := Lib.hid ((Below.refl w.heap.size w).alloc (Nat.le_refl _) (.cells #[.int .i64 b, .int .i64 n, .int .i64 c, .int .i64 k] 44))
    go_enter Try.func93, Try.ntmps93
    go_wp2_with fail
    refine (HG.out _).mono ?_
    rintro e w2 ⟨rfl, hb⟩
    obtain ⟨c0, c1, c2, c3⟩ := geo_cells hb
    have HC := Lib.hid (fun (W : World) (h : Below w2.heap.size w2 W) => geo_cells (hb.trans (h.mono hb.size)))
    have HB2 := Lib.hid (Below.refl w2.heap.size w2)
    have HW := Lib.hid (HW.out.trans (hb.mono HW.out.size))
    clear hb
    go_wp2_with fail
    refine (HD.out _).mono ?_
    rintro e w3 ⟨rfl, hb⟩
    obtain ⟨c0, c1, c2, c3⟩ := HC.out _ (HB2.out.trans (hb.mono HB2.out.size))
    have HB2 := Lib.hid (HB2.out.trans (hb.mono HB2.out.size))
    have HW := Lib.hid (HW.out.trans (hb.mono HW.out.size))
    clear hb
    go_wp2_with fail
    go_quiet (fail)
    go_wp2
    go_ret2
    exact ⟨rfl, quiet_b HW.out nq⟩
  · have hg' : g.good = false := by simpa using hg
    rw [hg'] at HG
    have hz : ∀ a : Int, (if g.good = true then a else 0) = 0 := fun a => if_neg hg
    have hz2 : ∀ (p : Prop) [Decidable p] (a : Int), (if g.good = true ∧ p then a else 0) = 0 := fun p _ a => if_neg (fun h => hg h.1)
    simp only [Geo.nd, hz, hz2]
    clear hz hz2 hg hg'
    obtain ⟨b, n, c, k⟩ := g
    simp only [Geo.v] at *
    have HW := Lib.hid ((Below.refl w.heap.size w).alloc (Nat.le_refl _) (.cells #[.int .i64 b, .int .i64 n, .int .i64 c, .int .i64 k] 44))
    go_enter Try.func93, Try.ntmps93
    go_wp2_with fail
    refine (HG.out _).mono ?_
    rintro e w2 ⟨rfl, hb⟩
    obtain ⟨c0, c1, c2, c3⟩ := geo_cells hb
    have HC := Lib.hid (fun (W : World) (h : Below w2.heap.size w2 W) => geo_cells (hb.trans (h.mono hb.size)))
    have HB2 := Lib.hid (Below.refl w2.heap.size w2)
    have HW := Lib.hid (HW.out.trans (hb.mono HW.out.size))
    clear hb
    go_wp2
    go_ret2
    exact ⟨rfl, HW.out⟩
end Go.Proofs.Ytgkojedgamglgaa
