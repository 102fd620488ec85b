/- Chapter 6: the walks of the reference's geometry (package lintelref6): the same numbers. -/
import Derived.Test.YtgkojedgamglgaaGeomData
import Derived.Test.YtgkojedgamglgaaRegion
namespace Go.Proofs.Ytgkojedgamglgaa
open Go.RowKit
set_option linter.unusedVariables false
set_option linter.unusedSimpArgs false
theorem refBlocks_any (g : Geo) (h : 0 ≤ g.b ∧ g.b ≤ 1024) (w : World) :
    Calls Try.prog 104 #[g.v] w fun e w' => e = .returned (.int .i64 g.bn) ∧ Below w.heap.size w w' := by
  obtain ⟨b, n, c, k⟩ := g
  obtain ⟨h1, h2⟩ := h
  simp only [Geo.v, Geo.bn] at *
  have hw := (Below.refl w.heap.size w).alloc (Nat.le_refl _) (.cells #[.int .i64 b, .int .i64 n, .int .i64 c, .int .i64 k] 44)
  have e3 : IntKind.i64.wrap (b + 511) = b + 511 := IntWalk.i64_in _ (by omega)
  have e5 : IntKind.i64.wrap ((b + 511) / 512) = (b + 511) / 512 := IntWalk.i64_in _ (by omega)
  have e6 : (b + 511).tdiv 512 = (b + 511) / 512 := Int.tdiv_eq_ediv_of_nonneg (by omega)
  go_enter Try.func104, Try.ntmps104
  go_wp2
  go_ret
  exact ⟨rfl, hw⟩
set_option maxRecDepth 100000 in
theorem refGood_any (g : Geo) (w : World) :
    Calls Try.prog 76 #[g.v] w fun e w' => e = .returned (.bool g.good) ∧ Below w.heap.size w w' := by
  have HG := Lib.hid (fun h W => refBlocks_any g h W)
  have HI := Lib.hid (Geo.good_iff g)
  have HP := Lib.hid (fun h => Geo.In.prod (g := g) h)
  generalize hgd : g.good = gd at *
  clear hgd
  obtain ⟨b, n, c, k⟩ := g
  simp only [Geo.v, Geo.In, Geo.dn, Geo.df, Geo.fr, Geo.bn] at *
  have HW := Lib.hid ((Below.refl w.heap.size w).alloc (Nat.le_refl _) (.cells #[.int .i64 b, .int .i64 n, .int .i64 c, .int .i64 k] 44))
  by_cases h0 : b < 64
  · obtain rfl : gd = false := by
      have := HI.out
      cases gd with
      | false => rfl
      | true => exfalso; have := (this.1 rfl).1; omega
    clear HI HP HG
    go_enter Try.func76, Try.ntmps76
    go_wp2
    go_ret
    exact ⟨rfl, HW.out⟩
  by_cases h1 : 1024 < b
  · obtain rfl : gd = false := by
      have := HI.out
      cases gd with
      | false => rfl
      | true => exfalso; have := (this.1 rfl).1; omega
    clear HI HP HG
    go_enter Try.func76, Try.ntmps76
    go_wp2
    go_ret
    exact ⟨rfl, HW.out⟩
  by_cases h2 : n < 4
  · obtain rfl : gd = false := by
      have := HI.out
      cases gd with
      | false => rfl
      | true => exfalso; have := (this.1 rfl).1; omega
    clear HI HP HG
    go_enter Try.func76, Try.ntmps76
    go_wp2
    go_ret
    exact ⟨rfl, HW.out⟩
  by_cases h3 : 64 < n
  · obtain rfl : gd = false := by
      have := HI.out
      cases gd with
      | false => rfl
      | true => exfalso; have := (this.1 rfl).1; omega
    clear HI HP HG
    go_enter Try.func76, Try.ntmps76
    go_wp2
    go_ret
    exact ⟨rfl, HW.out⟩
  by_cases h4 : c < 1
  · obtain rfl : gd = false := by
      have := HI.out
      cases gd with
      | false => rfl
      | true => exfalso; have := (this.1 rfl).1; omega
    clear HI HP HG
    go_enter Try.func76, Try.ntmps76
    go_wp2
    go_ret
    exact ⟨rfl, HW.out⟩
  by_cases h5 : 8 < c
  · obtain rfl : gd = false := by
      have := HI.out
      cases gd with
      | false => rfl
      | true => exfalso; have := (this.1 rfl).1; omega
    clear HI HP HG
    go_enter Try.func76, Try.ntmps76
    go_wp2
    go_ret
    exact ⟨rfl, HW.out⟩
  by_cases h6 : k < 16
  · obtain rfl : gd = false := by
      have := HI.out
      cases gd with
      | false => rfl
      | true => exfalso; have := (this.1 rfl).1; omega
    clear HI HP HG
    go_enter Try.func76, Try.ntmps76
    go_wp2
    go_ret
    exact ⟨rfl, HW.out⟩
  by_cases h7 : 110 < k
  · obtain rfl : gd = false := by
      have := HI.out
      cases gd with
      | false => rfl
      | true => exfalso; have := (this.1 rfl).1; omega
    clear HI HP HG
    go_enter Try.func76, Try.ntmps76
    go_wp2
    go_ret
    exact ⟨rfl, HW.out⟩
  have hIn : (64 ≤ b ∧ b ≤ 1024 ∧ 4 ≤ n ∧ n ≤ 64 ∧ 1 ≤ c ∧ c ≤ 8 ∧ 16 ≤ k ∧ k ≤ 110) := by omega
  obtain ⟨p1, p2⟩ := HP.out hIn
  have HR := Lib.hid (show decide (2 + c * k + (b + 511) / 512 + 2 * n < b) = gd by
    have h := HI.out
    cases gd with
    | true => exact decide_eq_true (by have := (h.1 rfl).2; omega)
    | false =>
      refine decide_eq_false (fun h2 => ?_)
      have := h.2 ⟨hIn, by omega⟩
      cases this)
  clear HI HP hIn
  have e1 : IntKind.i64.wrap (c * k) = c * k := IntWalk.i64_in _ (by omega)
  have e2 : IntKind.i64.wrap (2 + c * k) = 2 + c * k := IntWalk.i64_in _ (by omega)
  have e3 : IntKind.i64.wrap (2 + c * k + (b + 511) / 512) = 2 + c * k + (b + 511) / 512 := IntWalk.i64_in _ (by omega)
  have e4 : IntKind.i64.wrap (2 * n) = 2 * n := IntWalk.i64_in _ (by omega)
  have e5 : IntKind.i64.wrap (2 + c * k + (b + 511) / 512 + 2 * n) = 2 + c * k + (b + 511) / 512 + 2 * n := IntWalk.i64_in _ (by omega)
  have hb01 : 0 ≤ b ∧ b ≤ 1024 := by omega
  go_enter Try.func76, Try.ntmps76
  have HC := Lib.hid (fun (W : World) (h : Below (w.alloc (.cells #[.int .i64 b, .int .i64 n, .int .i64 c, .int .i64 k] 44)).heap.size (w.alloc (.cells #[.int .i64 b, .int .i64 n, .int .i64 c, .int .i64 k] 44)) W) => geo_cells h)
  go_wp2_with fail
  apply wp_region_inv' 57 (Eqs _ :: Eqs _ :: Eqs _ :: Eqs _ :: Eqs _ :: Eqs _ :: Eqs _ :: Eqs _ :: Eqs _ :: Eqs _ :: Eqs _ :: Eqs _ :: Eqs _ :: Eqs _ :: Eqs _ :: Eqs _ :: Eqs _ :: []) (by kernel_rfl) (by rfl) (stab_cons (stab_eq _) (stab_cons (stab_eq _) (stab_cons (stab_eq _) (stab_cons (stab_eq _) (stab_cons (stab_eq _) (stab_cons (stab_eq _) (stab_cons (stab_eq _) (stab_cons (stab_eq _) (stab_cons (stab_eq _) (stab_cons (stab_eq _) (stab_cons (stab_eq _) (stab_cons (stab_eq _) (stab_cons (stab_eq _) (stab_cons (stab_eq _) (stab_cons (stab_eq _) (stab_cons (stab_eq _) (stab_cons (stab_eq _) stab_nil))))))))))))))))) (by kernel_rfl) (by kernel_rfl)
  case hstep =>
    refine StepsOK.cons ?_ ?_
    · -- 0: Go.Op.fieldAddr 44 (Go.Operand.tmp 1) 2
      intro a w1 hR1 hF hU hsz
      have e1 : a.eval (.tmp 1) = _ := hU 1 (by kernel_rfl)
      rw [if_pos (by rfl)]
      intro K hK
      clear hF hU hsz
      obtain ⟨q1, q2, q3⟩ := eval_rest a
      generalize hρ : a.eval = ρ
      rw [hρ] at q1 q2 q3 e1
      clear hρ
      have u1 := OpUp_value Try.prog K
      have u2 := OpUp_enter Try.prog K
      go_simp
      exact hK _ _ (Stood.refl _) rfl
    refine StepsOK.cons ?_ ?_
    · -- 1: Go.Op.load 3 (Go.Operand.tmp 41)
      intro a w1 hR1 hF hU hsz
      have e41 : a.eval (.tmp 41) = _ := hF 0 _ _ rfl rfl (by kernel_rfl)
      rw [if_pos (by rfl)]
      intro K hK
      clear hF hU hsz
      obtain ⟨c0, c1, c2, c3⟩ := HC.out w1 (Stood.cur hR1)
      obtain ⟨q1, q2, q3⟩ := eval_rest a
      generalize hρ : a.eval = ρ
      rw [hρ] at q1 q2 q3 e41
      clear hρ
      have u1 := OpUp_value Try.prog K
      have u2 := OpUp_enter Try.prog K
      go_simp
      exact hK _ _ (Stood.refl _) rfl
    refine StepsOK.cons ?_ ?_
    · -- 2: Go.Op.fieldAddr 44 (Go.Operand.tmp 1) 3
      intro a w1 hR1 hF hU hsz
      have e1 : a.eval (.tmp 1) = _ := hU 1 (by kernel_rfl)
      rw [if_pos (by rfl)]
      intro K hK
      clear hF hU hsz
      obtain ⟨q1, q2, q3⟩ := eval_rest a
      generalize hρ : a.eval = ρ
      rw [hρ] at q1 q2 q3 e1
      clear hρ
      have u1 := OpUp_value Try.prog K
      have u2 := OpUp_enter Try.prog K
      go_simp
      exact hK _ _ (Stood.refl _) rfl
    refine StepsOK.cons ?_ ?_
    · -- 3: Go.Op.load 3 (Go.Operand.tmp 43)
      intro a w1 hR1 hF hU hsz
      have e43 : a.eval (.tmp 43) = _ := hF 2 _ _ rfl rfl (by kernel_rfl)
      rw [if_pos (by rfl)]
      intro K hK
      clear hF hU hsz
      obtain ⟨c0, c1, c2, c3⟩ := HC.out w1 (Stood.cur hR1)
      obtain ⟨q1, q2, q3⟩ := eval_rest a
      generalize hρ : a.eval = ρ
      rw [hρ] at q1 q2 q3 e43
      clear hρ
      have u1 := OpUp_value Try.prog K
      have u2 := OpUp_enter Try.prog K
      go_simp
      exact hK _ _ (Stood.refl _) rfl
    refine StepsOK.cons ?_ ?_
    · -- 4: Go.Op.binOp Go.BinOp.mul 3 (Go.Operand.tmp 42) (Go.Operand.tmp 44) 3
      intro a w1 hR1 hF hU hsz
      have e42 : a.eval (.tmp 42) = _ := hF 1 _ _ rfl rfl (by kernel_rfl)
      have e44 : a.eval (.tmp 44) = _ := hF 3 _ _ rfl rfl (by kernel_rfl)
      rw [if_pos (by rfl)]
      intro K hK
      clear hF hU hsz
      obtain ⟨q1, q2, q3⟩ := eval_rest a
      generalize hρ : a.eval = ρ
      rw [hρ] at q1 q2 q3 e42 e44
      clear hρ
      have u1 := OpUp_value Try.prog K
      have u2 := OpUp_enter Try.prog K
      go_simp
      exact hK _ _ (Stood.refl _) rfl
    refine StepsOK.cons ?_ ?_
    · -- 5: Go.Op.binOp Go.BinOp.add 3 (Go.Operand.const (Go.Value.int Go.IntKind.i64 2)) (G
      intro a w1 hR1 hF hU hsz
      have e45 : a.eval (.tmp 45) = _ := hF 4 _ _ rfl rfl (by kernel_rfl)
      rw [if_pos (by rfl)]
      intro K hK
      clear hF hU hsz
      obtain ⟨q1, q2, q3⟩ := eval_rest a
      generalize hρ : a.eval = ρ
      rw [hρ] at q1 q2 q3 e45
      clear hρ
      have u1 := OpUp_value Try.prog K
      have u2 := OpUp_enter Try.prog K
      go_simp
      exact hK _ _ (Stood.refl _) rfl
    refine StepsOK.cons ?_ ?_
    · -- 6: Go.Op.load 44 (Go.Operand.tmp 1)
      intro a w1 hR1 hF hU hsz
      have e1 : a.eval (.tmp 1) = _ := hU 1 (by kernel_rfl)
      rw [if_pos (by rfl)]
      intro K hK
      clear hF hU hsz
      obtain ⟨c0, c1, c2, c3⟩ := HC.out w1 (Stood.cur hR1)
      obtain ⟨q1, q2, q3⟩ := eval_rest a
      generalize hρ : a.eval = ρ
      rw [hρ] at q1 q2 q3 e1
      clear hρ
      have u1 := OpUp_value Try.prog K
      have u2 := OpUp_enter Try.prog K
      go_simp
      exact hK _ _ (Stood.refl _) rfl
    refine StepsOK.cons ?_ ?_
    · -- 7: Go.Op.call { callee := Go.Callee.value (Go.Operand.func 104), args := #[Go.Opera
      intro a w1 hR1 hF hU hsz
      have e47 : a.eval (.tmp 47) = _ := hF 6 _ _ rfl rfl (by kernel_rfl)
      rw [if_pos (by rfl)]
      intro K hK
      clear hF hU hsz
      obtain ⟨q1, q2, q3⟩ := eval_rest a
      generalize hρ : a.eval = ρ
      rw [hρ] at q1 q2 q3 e47
      clear hρ
      have u1 := OpUp_value Try.prog K
      have u2 := OpUp_enter Try.prog K
      go_simp
      refine (HG.out hb01 _).mono ?_
      rintro e w' ⟨rfl, hb⟩
      exact ⟨_, rfl, hK _ _ hb rfl⟩
    refine StepsOK.cons ?_ ?_
    · -- 8: Go.Op.binOp Go.BinOp.add 3 (Go.Operand.tmp 46) (Go.Operand.tmp 48) 3
      intro a w1 hR1 hF hU hsz
      have e46 : a.eval (.tmp 46) = _ := hF 5 _ _ rfl rfl (by kernel_rfl)
      have e48 : a.eval (.tmp 48) = _ := hF 7 _ _ rfl rfl (by kernel_rfl)
      rw [if_pos (by rfl)]
      intro K hK
      clear hF hU hsz
      obtain ⟨q1, q2, q3⟩ := eval_rest a
      generalize hρ : a.eval = ρ
      rw [hρ] at q1 q2 q3 e46 e48
      clear hρ
      have u1 := OpUp_value Try.prog K
      have u2 := OpUp_enter Try.prog K
      go_simp
      exact hK _ _ (Stood.refl _) rfl
    refine StepsOK.cons ?_ ?_
    · -- 9: Go.Op.fieldAddr 44 (Go.Operand.tmp 1) 1
      intro a w1 hR1 hF hU hsz
      have e1 : a.eval (.tmp 1) = _ := hU 1 (by kernel_rfl)
      rw [if_pos (by rfl)]
      intro K hK
      clear hF hU hsz
      obtain ⟨q1, q2, q3⟩ := eval_rest a
      generalize hρ : a.eval = ρ
      rw [hρ] at q1 q2 q3 e1
      clear hρ
      have u1 := OpUp_value Try.prog K
      have u2 := OpUp_enter Try.prog K
      go_simp
      exact hK _ _ (Stood.refl _) rfl
    refine StepsOK.cons ?_ ?_
    · -- 10: Go.Op.load 3 (Go.Operand.tmp 50)
      intro a w1 hR1 hF hU hsz
      have e50 : a.eval (.tmp 50) = _ := hF 9 _ _ rfl rfl (by kernel_rfl)
      rw [if_pos (by rfl)]
      intro K hK
      clear hF hU hsz
      obtain ⟨c0, c1, c2, c3⟩ := HC.out w1 (Stood.cur hR1)
      obtain ⟨q1, q2, q3⟩ := eval_rest a
      generalize hρ : a.eval = ρ
      rw [hρ] at q1 q2 q3 e50
      clear hρ
      have u1 := OpUp_value Try.prog K
      have u2 := OpUp_enter Try.prog K
      go_simp
      exact hK _ _ (Stood.refl _) rfl
    refine StepsOK.cons ?_ ?_
    · -- 11: Go.Op.binOp Go.BinOp.mul 3 (Go.Operand.const (Go.Value.int Go.IntKind.i64 2)) (G
      intro a w1 hR1 hF hU hsz
      have e51 : a.eval (.tmp 51) = _ := hF 10 _ _ rfl rfl (by kernel_rfl)
      rw [if_pos (by rfl)]
      intro K hK
      clear hF hU hsz
      obtain ⟨q1, q2, q3⟩ := eval_rest a
      generalize hρ : a.eval = ρ
      rw [hρ] at q1 q2 q3 e51
      clear hρ
      have u1 := OpUp_value Try.prog K
      have u2 := OpUp_enter Try.prog K
      go_simp
      exact hK _ _ (Stood.refl _) rfl
    refine StepsOK.cons ?_ ?_
    · -- 12: Go.Op.binOp Go.BinOp.add 3 (Go.Operand.tmp 49) (Go.Operand.tmp 52) 3
      intro a w1 hR1 hF hU hsz
      have e49 : a.eval (.tmp 49) = _ := hF 8 _ _ rfl rfl (by kernel_rfl)
      have e52 : a.eval (.tmp 52) = _ := hF 11 _ _ rfl rfl (by kernel_rfl)
      rw [if_pos (by rfl)]
      intro K hK
      clear hF hU hsz
      obtain ⟨q1, q2, q3⟩ := eval_rest a
      generalize hρ : a.eval = ρ
      rw [hρ] at q1 q2 q3 e49 e52
      clear hρ
      have u1 := OpUp_value Try.prog K
      have u2 := OpUp_enter Try.prog K
      go_simp
      exact hK _ _ (Stood.refl _) rfl
    refine StepsOK.cons ?_ ?_
    · -- 13: Go.Op.fieldAddr 44 (Go.Operand.tmp 1) 0
      intro a w1 hR1 hF hU hsz
      have e1 : a.eval (.tmp 1) = _ := hU 1 (by kernel_rfl)
      rw [if_pos (by rfl)]
      intro K hK
      clear hF hU hsz
      obtain ⟨q1, q2, q3⟩ := eval_rest a
      generalize hρ : a.eval = ρ
      rw [hρ] at q1 q2 q3 e1
      clear hρ
      have u1 := OpUp_value Try.prog K
      have u2 := OpUp_enter Try.prog K
      go_simp
      exact hK _ _ (Stood.refl _) rfl
    refine StepsOK.cons ?_ ?_
    · -- 14: Go.Op.load 3 (Go.Operand.tmp 54)
      intro a w1 hR1 hF hU hsz
      have e54 : a.eval (.tmp 54) = _ := hF 13 _ _ rfl rfl (by kernel_rfl)
      rw [if_pos (by rfl)]
      intro K hK
      clear hF hU hsz
      obtain ⟨c0, c1, c2, c3⟩ := HC.out w1 (Stood.cur hR1)
      obtain ⟨q1, q2, q3⟩ := eval_rest a
      generalize hρ : a.eval = ρ
      rw [hρ] at q1 q2 q3 e54
      clear hρ
      have u1 := OpUp_value Try.prog K
      have u2 := OpUp_enter Try.prog K
      go_simp
      exact hK _ _ (Stood.refl _) rfl
    refine StepsOK.cons ?_ ?_
    · -- 15: Go.Op.binOp Go.BinOp.lss 3 (Go.Operand.tmp 53) (Go.Operand.tmp 55) 3
      intro a w1 hR1 hF hU hsz
      have e53 : a.eval (.tmp 53) = _ := hF 12 _ _ rfl rfl (by kernel_rfl)
      have e55 : a.eval (.tmp 55) = _ := hF 14 _ _ rfl rfl (by kernel_rfl)
      rw [if_pos (by rfl)]
      intro K hK
      clear hF hU hsz
      obtain ⟨q1, q2, q3⟩ := eval_rest a
      generalize hρ : a.eval = ρ
      rw [hρ] at q1 q2 q3 e53 e55
      clear hρ
      have u1 := OpUp_value Try.prog K
      have u2 := OpUp_enter Try.prog K
      go_simp
      exact hK _ _ (Stood.refl _) rfl
    refine StepsOK.cons ?_ ?_
    · -- 16: Go.Op.assign (Go.Operand.tmp 56)
      intro a w1 hR1 hF hU hsz
      have e56 : a.eval (.tmp 56) = _ := hF 15 _ _ rfl rfl (by kernel_rfl)
      rw [if_pos (by rfl)]
      intro K hK
      clear hF hU hsz
      obtain ⟨q1, q2, q3⟩ := eval_rest a
      generalize hρ : a.eval = ρ
      rw [hρ] at q1 q2 q3 e56
      clear hρ
      have u1 := OpUp_value Try.prog K
      have u2 := OpUp_enter Try.prog K
      go_simp
      exact hK _ _ (Stood.refl _) rfl
    exact StepsOK.nil
  case hend =>
    intro vs0 w1 hR1 hH0
    obtain ⟨vs1, rfl, hH1⟩ := hH0.eq_
    obtain ⟨vs2, rfl, hH2⟩ := hH1.eq_
    obtain ⟨vs3, rfl, hH3⟩ := hH2.eq_
    obtain ⟨vs4, rfl, hH4⟩ := hH3.eq_
    obtain ⟨vs5, rfl, hH5⟩ := hH4.eq_
    obtain ⟨vs6, rfl, hH6⟩ := hH5.eq_
    obtain ⟨vs7, rfl, hH7⟩ := hH6.eq_
    obtain ⟨vs8, rfl, hH8⟩ := hH7.eq_
    obtain ⟨vs9, rfl, hH9⟩ := hH8.eq_
    obtain ⟨vs10, rfl, hH10⟩ := hH9.eq_
    obtain ⟨vs11, rfl, hH11⟩ := hH10.eq_
    obtain ⟨vs12, rfl, hH12⟩ := hH11.eq_
    obtain ⟨vs13, rfl, hH13⟩ := hH12.eq_
    obtain ⟨vs14, rfl, hH14⟩ := hH13.eq_
    obtain ⟨vs15, rfl, hH15⟩ := hH14.eq_
    obtain ⟨vs16, rfl, hH16⟩ := hH15.eq_
    obtain ⟨vs17, rfl, hH17⟩ := hH16.eq_
    obtain rfl := hH17.nil
    clear hH0 hH1 hH2 hH3 hH4 hH5 hH6 hH7 hH8 hH9 hH10 hH11 hH12 hH13 hH14 hH15 hH16 hH17
    simp only [putAll, Act.put, List.setIfInBounds_toArray, List.set_cons_zero, List.set_cons_succ]
    have HW := Lib.hid (HW.out.trans ((Stood.cur hR1).mono HW.out.size))
    go_wp2
    go_ret
    exact ⟨ret_bool HR.out, HW.out⟩
end Go.Proofs.Ytgkojedgamglgaa
