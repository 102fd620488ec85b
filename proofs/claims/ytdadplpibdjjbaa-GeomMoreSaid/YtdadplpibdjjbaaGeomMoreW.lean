/- The walk of the statement GeomMore. No condition but that the numbers are ints. -/
import Derived.Test.YtdadplpibdjjbaaRef6b
import Derived.Test.YtdadplpibdjjbaaGeomLaws
import Derived.Test.YtdadplpibdjjbaaFrame3
namespace Go.Proofs.Ytdadplpibdjjbaa
open Go.RowKit
set_option linter.unusedVariables false
set_option linter.unusedSimpArgs false
/-- Cells of two boxed geometries. -/
theorem geo_cells' {w1 w2 w3 : World} {T : TypeId} {b n c k : Int} (h0 : Below (w1.alloc (.cells #[.int .i64 b, .int .i64 n, .int .i64 c, .int .i64 k] T)).heap.size (w1.alloc (.cells #[.int .i64 b, .int .i64 n, .int .i64 c, .int .i64 k] T)) w2) (h : Below w2.heap.size w2 w3) :
    w3.cell? ⟨w1.heap.size, 0, none⟩ = some (.int .i64 b) ∧ w3.cell? ⟨w1.heap.size, 1, none⟩ = some (.int .i64 n) ∧ w3.cell? ⟨w1.heap.size, 2, none⟩ = some (.int .i64 c) ∧ w3.cell? ⟨w1.heap.size, 3, none⟩ = some (.int .i64 k) := geo_cells (h0.trans (h.mono h0.size))
set_option maxRecDepth 100000 in
set_option maxHeartbeats 4000000 in
theorem GeomMore_walk (g : Geo) (w : World) (hf : g.Fit) :
    Calls Try.prog 7 #[g.v] w fun e w' => e = .returned (.bool true) ∧ Below w.heap.size w w' := by
  have KA := Lib.hid (fun W => geomAwake_any W)
  have KG := Lib.hid (fun W => ggood_any g W)
  by_cases hg : g.good = true
  · obtain ⟨hIn, hdn⟩ := (Geo.good_iff g).1 hg
    have e0 : IntKind.i64.wrap (g.b + 1) = g.b + 1 := IntWalk.i64_in _ (by have := hIn.2.1; have := hIn.1; omega)
    rw [hg] at KG
    have KH := Lib.hid (fun W => ggood_any ⟨g.b + 1, g.n, g.c, g.k⟩ W)
    by_cases hh : (Geo.mk (g.b + 1) g.n g.c g.k).good = true
    · rw [hh] at KH
      have KD := Lib.hid (fun W => gData_any g W)
      have KD2 := Lib.hid (fun W => gData_any ⟨g.b + 1, g.n, g.c, g.k⟩ W)
      have KB := Lib.hid (fun W => gBits_any g W)
      have KB2 := Lib.hid (fun W => gBits_any ⟨g.b + 1, g.n, g.c, g.k⟩ W)
      have KK := Lib.hid (fun W => gBack_any g W)
      have KK2 := Lib.hid (fun W => gBack_any ⟨g.b + 1, g.n, g.c, g.k⟩ W)
      simp only [if_pos hg] at KD KB KK
      simp only [if_pos hh] at KD2 KB2 KK2
      obtain ⟨q1, q2, q3, q4⟩ := hIn.bounds
      have hs1 : (Geo.mk (g.b + 1) g.n g.c g.k).dn = g.b + 1 - 1 - (g.fr + (Geo.mk (g.b + 1) g.n g.c g.k).bn + 2 * g.n) := rfl
      have hs2 : g.dn = g.b - 1 - (g.fr + g.bn + 2 * g.n) := rfl
      have hs3 : (Geo.mk (g.b + 1) g.n g.c g.k).bn = (g.b + 1 + 511) / 512 := rfl
      have hs4 : g.bn = (g.b + 511) / 512 := rfl
      have r1 := hIn.1
      have r2 := hIn.2.1
      have r3 := hIn.2.2.1
      have r4 := hIn.2.2.2.1
      generalize (Geo.mk (g.b + 1) g.n g.c g.k).dn = y2 at *
      generalize (Geo.mk (g.b + 1) g.n g.c g.k).bn = x2 at *
      generalize (Geo.mk (g.b + 1) g.n g.c g.k).df = z2 at *
      generalize (Geo.mk (g.b + 1) g.n g.c g.k).fr = v2 at *
      generalize g.dn = y1 at *
      generalize g.bn = x1 at *
      generalize g.df = z1 at *
      generalize g.fr = v1 at *
      have e1 : IntKind.i64.wrap (y2 + x2) = y1 + x1 + 1 := by rw [IntWalk.i64_in _ (by omega)]; omega
      have e2 : IntKind.i64.wrap (y1 + x1) = y1 + x1 := IntWalk.i64_in _ (by omega)
      have e3 : IntKind.i64.wrap (y1 + x1 + 1) = y1 + x1 + 1 := IntWalk.i64_in _ (by omega)
      have e4 : IntKind.i64.wrap (g.b - 1 + 1) = g.b + 1 - 1 := by rw [IntWalk.i64_in _ (by omega)]; omega
      have e5 : IntKind.i64.wrap g.b = g.b := IntWalk.i64_in _ (by omega)
      by_cases hx : x2 = x1
      · subst hx
        clear hs1 hs2 hs3 hs4 q1 q2 q3 q4 r1 r2 r3 r4 hIn hdn hg hh
        obtain ⟨b, n, c, k⟩ := g
        simp only [Geo.v] at *
        have HX0 := Lib.hid ((Below.refl w.heap.size w).alloc (Nat.le_refl _) (.cells #[.int .i64 b, .int .i64 n, .int .i64 c, .int .i64 k] 45))
        go_enter Try.func7, Try.ntmps7
        go_wp2_with fail
        refine (KA.out _).mono ?_
        rintro e w1 ⟨rfl, hb1⟩
        have HX1 := Lib.hid (HX0.out.trans (hb1.mono HX0.out.size))
        obtain ⟨c0, c1, c2, c3⟩ := geo_cells hb1
        have HC0 := Lib.hid (fun (W : World) (h : Below w1.heap.size w1 W) => geo_cells' hb1 h)
        clear hb1
        have HX := Lib.hid (HX1.out.alloc HX1.out.size (.cells #[.int .i64 (b + 1), .int .i64 n, .int .i64 c, .int .i64 k] 45))
        have HC := Lib.hid (fun (W : World) (h : Below (w1.alloc (.cells #[.int .i64 (b + 1), .int .i64 n, .int .i64 c, .int .i64 k] 45)).heap.size (w1.alloc (.cells #[.int .i64 (b + 1), .int .i64 n, .int .i64 c, .int .i64 k] 45)) W) => HC0.out W (((Below.refl w1.heap.size w1).alloc (Nat.le_refl _) _).trans (h.mono (by simp))))
        have HD := Lib.hid (fun (W : World) (h : Below (w1.alloc (.cells #[.int .i64 (b + 1), .int .i64 n, .int .i64 c, .int .i64 k] 45)).heap.size (w1.alloc (.cells #[.int .i64 (b + 1), .int .i64 n, .int .i64 c, .int .i64 k] 45)) W) => geo_cells h)
        have HB := Lib.hid (Below.refl (w1.alloc (.cells #[.int .i64 (b + 1), .int .i64 n, .int .i64 c, .int .i64 k] 45)).heap.size (w1.alloc (.cells #[.int .i64 (b + 1), .int .i64 n, .int .i64 c, .int .i64 k] 45)))
        obtain ⟨c0, c1, c2, c3⟩ := HC.out _ HB.out
        obtain ⟨d0, d1, d2, d3⟩ := HD.out _ HB.out
        go_wp2_with fail
        refine (KG.out _).mono ?_
        rintro e w2 ⟨rfl, hb⟩
        have HB := Lib.hid (HB.out.trans (hb.mono HB.out.size))
        obtain ⟨c0, c1, c2, c3⟩ := HC.out _ HB.out
        obtain ⟨d0, d1, d2, d3⟩ := HD.out _ HB.out
        clear hb
        go_wp2_with fail
        refine (KH.out _).mono ?_
        rintro e w3 ⟨rfl, hb⟩
        have HB := Lib.hid (HB.out.trans (hb.mono HB.out.size))
        obtain ⟨c0, c1, c2, c3⟩ := HC.out _ HB.out
        obtain ⟨d0, d1, d2, d3⟩ := HD.out _ HB.out
        clear hb
        go_wp2_with fail
        refine (KD.out _).mono ?_
        rintro e w4 ⟨rfl, hb⟩
        have HB := Lib.hid (HB.out.trans (hb.mono HB.out.size))
        obtain ⟨c0, c1, c2, c3⟩ := HC.out _ HB.out
        obtain ⟨d0, d1, d2, d3⟩ := HD.out _ HB.out
        clear hb
        go_wp2_with fail
        refine (KD2.out _).mono ?_
        rintro e w5 ⟨rfl, hb⟩
        have HB := Lib.hid (HB.out.trans (hb.mono HB.out.size))
        obtain ⟨c0, c1, c2, c3⟩ := HC.out _ HB.out
        obtain ⟨d0, d1, d2, d3⟩ := HD.out _ HB.out
        clear hb
        go_wp2_with fail
        refine (KB.out _).mono ?_
        rintro e w6 ⟨rfl, hb⟩
        have HB := Lib.hid (HB.out.trans (hb.mono HB.out.size))
        obtain ⟨c0, c1, c2, c3⟩ := HC.out _ HB.out
        obtain ⟨d0, d1, d2, d3⟩ := HD.out _ HB.out
        clear hb
        go_wp2_with fail
        refine (KB2.out _).mono ?_
        rintro e w7 ⟨rfl, hb⟩
        have HB := Lib.hid (HB.out.trans (hb.mono HB.out.size))
        obtain ⟨c0, c1, c2, c3⟩ := HC.out _ HB.out
        obtain ⟨d0, d1, d2, d3⟩ := HD.out _ HB.out
        clear hb
        go_wp2_with fail
        apply wp_region_inv' 74 (Eqs _ :: Eqs _ :: Eqs _ :: Eqs _ :: Eqs _ :: Eqs _ :: Eqs _ :: Eqs _ :: Eqs _ :: Eqs _ :: Eqs _ :: Eqs _ :: Eqs _ :: Eqs _ :: Eqs _ :: Eqs _ :: Eqs _ :: Eqs _ :: Eqs _ :: Eqs _ :: Eqs _ :: Eqs _ :: Eqs _ :: Eqs _ :: Eqs _ :: Eqs _ :: Eqs _ :: Eqs _ :: []) (by kernel_rfl) (by rfl) (stab_cons (stab_eq _) (stab_cons (stab_eq _) (stab_cons (stab_eq _) (stab_cons (stab_eq _) (stab_cons (stab_eq _) (stab_cons (stab_eq _) (stab_cons (stab_eq _) (stab_cons (stab_eq _) (stab_cons (stab_eq _) (stab_cons (stab_eq _) (stab_cons (stab_eq _) (stab_cons (stab_eq _) (stab_cons (stab_eq _) (stab_cons (stab_eq _) (stab_cons (stab_eq _) (stab_cons (stab_eq _) (stab_cons (stab_eq _) (stab_cons (stab_eq _) (stab_cons (stab_eq _) (stab_cons (stab_eq _) (stab_cons (stab_eq _) (stab_cons (stab_eq _) (stab_cons (stab_eq _) (stab_cons (stab_eq _) (stab_cons (stab_eq _) (stab_cons (stab_eq _) (stab_cons (stab_eq _) (stab_cons (stab_eq _) stab_nil)))))))))))))))))))))))))))) (by kernel_rfl) (by kernel_rfl)
        case hstep =>
          refine StepsOK.cons ?_ ?_
          · -- 0: Go.Op.move (Go.Operand.tmp 7)
            intro a w1 hR1 hF hU hsz
            have e7 : a.eval (.tmp 7) = _ := hU 7 (by kernel_rfl)
            rw [if_pos (by rfl)]
            intro K hK
            clear hF hU hsz
            obtain ⟨q1, q2, q3⟩ := eval_rest a
            generalize hρ : a.eval = ρ
            rw [hρ] at q1 q2 q3 e7
            clear hρ
            have u1 := OpUp_value Try.prog K
            have u2 := OpUp_enter Try.prog K
            go_simp
            exact hK _ _ (Stood.refl _) rfl
          refine StepsOK.cons ?_ ?_
          · -- 1: Go.Op.move (Go.Operand.tmp 11)
            intro a w1 hR1 hF hU hsz
            have e11 : a.eval (.tmp 11) = _ := hU 11 (by kernel_rfl)
            rw [if_pos (by rfl)]
            intro K hK
            clear hF hU hsz
            obtain ⟨q1, q2, q3⟩ := eval_rest a
            generalize hρ : a.eval = ρ
            rw [hρ] at q1 q2 q3 e11
            clear hρ
            have u1 := OpUp_value Try.prog K
            have u2 := OpUp_enter Try.prog K
            go_simp
            exact hK _ _ (Stood.refl _) rfl
          refine StepsOK.cons ?_ ?_
          · -- 2: Go.Op.binOp Go.BinOp.add 3 (Go.Operand.tmp 47) (Go.Operand.tmp 48) 3
            intro a w1 hR1 hF hU hsz
            have e47 : a.eval (.tmp 47) = _ := hF 0 _ _ rfl rfl (by kernel_rfl)
            have e48 : a.eval (.tmp 48) = _ := hF 1 _ _ rfl rfl (by kernel_rfl)
            rw [if_pos (by rfl)]
            intro K hK
            clear hF hU hsz
            obtain ⟨q1, q2, q3⟩ := eval_rest a
            generalize hρ : a.eval = ρ
            rw [hρ] at q1 q2 q3 e47 e48
            clear hρ
            have u1 := OpUp_value Try.prog K
            have u2 := OpUp_enter Try.prog K
            go_simp
            exact hK _ _ (Stood.refl _) rfl
          refine StepsOK.cons ?_ ?_
          · -- 3: Go.Op.move (Go.Operand.tmp 5)
            intro a w1 hR1 hF hU hsz
            have e5 : a.eval (.tmp 5) = _ := hU 5 (by kernel_rfl)
            rw [if_pos (by rfl)]
            intro K hK
            clear hF hU hsz
            obtain ⟨q1, q2, q3⟩ := eval_rest a
            generalize hρ : a.eval = ρ
            rw [hρ] at q1 q2 q3 e5
            clear hρ
            have u1 := OpUp_value Try.prog K
            have u2 := OpUp_enter Try.prog K
            go_simp
            exact hK _ _ (Stood.refl _) rfl
          refine StepsOK.cons ?_ ?_
          · -- 4: Go.Op.move (Go.Operand.tmp 9)
            intro a w1 hR1 hF hU hsz
            have e9 : a.eval (.tmp 9) = _ := hU 9 (by kernel_rfl)
            rw [if_pos (by rfl)]
            intro K hK
            clear hF hU hsz
            obtain ⟨q1, q2, q3⟩ := eval_rest a
            generalize hρ : a.eval = ρ
            rw [hρ] at q1 q2 q3 e9
            clear hρ
            have u1 := OpUp_value Try.prog K
            have u2 := OpUp_enter Try.prog K
            go_simp
            exact hK _ _ (Stood.refl _) rfl
          refine StepsOK.cons ?_ ?_
          · -- 5: Go.Op.binOp Go.BinOp.add 3 (Go.Operand.tmp 50) (Go.Operand.tmp 51) 3
            intro a w1 hR1 hF hU hsz
            have e50 : a.eval (.tmp 50) = _ := hF 3 _ _ rfl rfl (by kernel_rfl)
            have e51 : a.eval (.tmp 51) = _ := hF 4 _ _ rfl rfl (by kernel_rfl)
            rw [if_pos (by rfl)]
            intro K hK
            clear hF hU hsz
            obtain ⟨q1, q2, q3⟩ := eval_rest a
            generalize hρ : a.eval = ρ
            rw [hρ] at q1 q2 q3 e50 e51
            clear hρ
            have u1 := OpUp_value Try.prog K
            have u2 := OpUp_enter Try.prog K
            go_simp
            exact hK _ _ (Stood.refl _) rfl
          refine StepsOK.cons ?_ ?_
          · -- 6: Go.Op.binOp Go.BinOp.add 3 (Go.Operand.tmp 52) (Go.Operand.const (Go.Value.int G
            intro a w1 hR1 hF hU hsz
            have e52 : a.eval (.tmp 52) = _ := hF 5 _ _ rfl rfl (by kernel_rfl)
            rw [if_pos (by rfl)]
            intro K hK
            clear hF hU hsz
            obtain ⟨q1, q2, q3⟩ := eval_rest a
            generalize hρ : a.eval = ρ
            rw [hρ] at q1 q2 q3 e52
            clear hρ
            have u1 := OpUp_value Try.prog K
            have u2 := OpUp_enter Try.prog K
            go_simp
            exact hK _ _ (Stood.refl _) rfl
          refine StepsOK.cons ?_ ?_
          · -- 7: Go.Op.binOp Go.BinOp.eql 3 (Go.Operand.tmp 49) (Go.Operand.tmp 53) 3
            intro a w1 hR1 hF hU hsz
            have e49 : a.eval (.tmp 49) = _ := hF 2 _ _ rfl rfl (by kernel_rfl)
            have e53 : a.eval (.tmp 53) = _ := hF 6 _ _ rfl rfl (by kernel_rfl)
            rw [if_pos (by rfl)]
            intro K hK
            clear hF hU hsz
            obtain ⟨q1, q2, q3⟩ := eval_rest a
            generalize hρ : a.eval = ρ
            rw [hρ] at q1 q2 q3 e49 e53
            clear hρ
            have u1 := OpUp_value Try.prog K
            have u2 := OpUp_enter Try.prog K
            go_simp
            exact hK _ _ (Stood.refl _) rfl
          refine StepsOK.cons ?_ ?_
          · -- 8: Go.Op.move (Go.Operand.tmp 54)
            intro a w1 hR1 hF hU hsz
            have e54 : a.eval (.tmp 54) = _ := hF 7 _ _ rfl rfl (by kernel_rfl)
            rw [if_pos (by rfl)]
            intro K hK
            clear hF hU hsz
            obtain ⟨q1, q2, q3⟩ := eval_rest a
            generalize hρ : a.eval = ρ
            rw [hρ] at q1 q2 q3 e54
            clear hρ
            have u1 := OpUp_value Try.prog K
            have u2 := OpUp_enter Try.prog K
            go_simp
            exact hK _ _ (Stood.refl _) rfl
          refine StepsOK.cons ?_ ?_
          · -- 9: Go.Op.move (Go.Operand.tmp 11)
            intro a w1 hR1 hF hU hsz
            have e11 : a.eval (.tmp 11) = _ := hU 11 (by kernel_rfl)
            have e55 : a.eval (.tmp 55) = _ := hF 8 _ _ rfl rfl (by kernel_rfl)
            rw [wanted_guard (ops := _) rfl rfl rfl e55, if_pos (by rfl)]
            intro K hK
            clear hF hU hsz
            obtain ⟨q1, q2, q3⟩ := eval_rest a
            generalize hρ : a.eval = ρ
            rw [hρ] at q1 q2 q3 e11 e55
            clear hρ
            have u1 := OpUp_value Try.prog K
            have u2 := OpUp_enter Try.prog K
            go_simp
            exact hK _ _ (Stood.refl _) rfl
          refine StepsOK.cons ?_ ?_
          · -- 10: Go.Op.move (Go.Operand.tmp 9)
            intro a w1 hR1 hF hU hsz
            have e9 : a.eval (.tmp 9) = _ := hU 9 (by kernel_rfl)
            have e55 : a.eval (.tmp 55) = _ := hF 8 _ _ rfl rfl (by kernel_rfl)
            rw [wanted_guard (ops := _) rfl rfl rfl e55, if_pos (by rfl)]
            intro K hK
            clear hF hU hsz
            obtain ⟨q1, q2, q3⟩ := eval_rest a
            generalize hρ : a.eval = ρ
            rw [hρ] at q1 q2 q3 e9 e55
            clear hρ
            have u1 := OpUp_value Try.prog K
            have u2 := OpUp_enter Try.prog K
            go_simp
            exact hK _ _ (Stood.refl _) rfl
          refine StepsOK.cons ?_ ?_
          · -- 11: Go.Op.binOp Go.BinOp.eql 3 (Go.Operand.tmp 56) (Go.Operand.tmp 57) 3
            intro a w1 hR1 hF hU hsz
            have e56 : a.eval (.tmp 56) = _ := hF 9 _ _ rfl rfl (by kernel_rfl)
            have e57 : a.eval (.tmp 57) = _ := hF 10 _ _ rfl rfl (by kernel_rfl)
            have e55 : a.eval (.tmp 55) = _ := hF 8 _ _ rfl rfl (by kernel_rfl)
            rw [wanted_guard (ops := _) rfl rfl rfl e55, if_pos (by rfl)]
            intro K hK
            clear hF hU hsz
            obtain ⟨q1, q2, q3⟩ := eval_rest a
            generalize hρ : a.eval = ρ
            rw [hρ] at q1 q2 q3 e55 e56 e57
            clear hρ
            have u1 := OpUp_value Try.prog K
            have u2 := OpUp_enter Try.prog K
            go_simp
            exact hK _ _ (Stood.refl _) rfl
          refine StepsOK.cons ?_ ?_
          · -- 12: Go.Op.move (Go.Operand.tmp 58)
            intro a w1 hR1 hF hU hsz
            have e58 : a.eval (.tmp 58) = _ := hF 11 _ _ rfl rfl (by kernel_rfl)
            have e55 : a.eval (.tmp 55) = _ := hF 8 _ _ rfl rfl (by kernel_rfl)
            rw [wanted_guard (ops := _) rfl rfl rfl e55, if_pos (by rfl)]
            intro K hK
            clear hF hU hsz
            obtain ⟨q1, q2, q3⟩ := eval_rest a
            generalize hρ : a.eval = ρ
            rw [hρ] at q1 q2 q3 e55 e58
            clear hρ
            have u1 := OpUp_value Try.prog K
            have u2 := OpUp_enter Try.prog K
            go_simp
            exact hK _ _ (Stood.refl _) rfl
          refine StepsOK.cons ?_ ?_
          · -- 13: Go.Op.fieldAddr 45 (Go.Operand.tmp 1) 0
            intro a w1 hR1 hF hU hsz
            have e1 : a.eval (.tmp 1) = _ := hU 1 (by kernel_rfl)
            have e59 : a.eval (.tmp 59) = _ := hF 12 _ _ rfl rfl (by kernel_rfl)
            rw [wanted_guard (ops := _) rfl rfl rfl e59, if_neg (by decide)]
          refine StepsOK.cons ?_ ?_
          · -- 14: Go.Op.load 3 (Go.Operand.tmp 60)
            intro a w1 hR1 hF hU hsz
            have e60 : a.eval (.tmp 60) = _ := hF 13 _ _ rfl rfl (by kernel_rfl)
            have e59 : a.eval (.tmp 59) = _ := hF 12 _ _ rfl rfl (by kernel_rfl)
            rw [wanted_guard (ops := _) rfl rfl rfl e59, if_neg (by decide)]
          refine StepsOK.cons ?_ ?_
          · -- 15: Go.Op.binOp Go.BinOp.rem 3 (Go.Operand.tmp 61) (Go.Operand.const (Go.Value.int G
            intro a w1 hR1 hF hU hsz
            have e61 : a.eval (.tmp 61) = _ := hF 14 _ _ rfl rfl (by kernel_rfl)
            have e59 : a.eval (.tmp 59) = _ := hF 12 _ _ rfl rfl (by kernel_rfl)
            rw [wanted_guard (ops := _) rfl rfl rfl e59, if_neg (by decide)]
          refine StepsOK.cons ?_ ?_
          · -- 16: Go.Op.binOp Go.BinOp.eql 3 (Go.Operand.tmp 62) (Go.Operand.const (Go.Value.int G
            intro a w1 hR1 hF hU hsz
            have e62 : a.eval (.tmp 62) = _ := hF 15 _ _ rfl rfl (by kernel_rfl)
            have e59 : a.eval (.tmp 59) = _ := hF 12 _ _ rfl rfl (by kernel_rfl)
            rw [wanted_guard (ops := _) rfl rfl rfl e59, if_neg (by decide)]
          refine StepsOK.cons ?_ ?_
          · -- 17: Go.Op.pick (Go.Operand.tmp 59) (Go.Operand.const (Go.Value.bool true)) (Go.Opera
            intro a w1 hR1 hF hU hsz
            have e59 : a.eval (.tmp 59) = _ := hF 12 _ _ rfl rfl (by kernel_rfl)
            have e63 : a.eval (.tmp 63) = _ := hF 16 _ _ rfl rfl (by kernel_rfl)
            have e55 : a.eval (.tmp 55) = _ := hF 8 _ _ rfl rfl (by kernel_rfl)
            rw [wanted_guard (ops := _) rfl rfl rfl e55, if_pos (by rfl)]
            intro K hK
            clear hF hU hsz
            obtain ⟨q1, q2, q3⟩ := eval_rest a
            generalize hρ : a.eval = ρ
            rw [hρ] at q1 q2 q3 e55 e59 e63
            clear hρ
            have u1 := OpUp_value Try.prog K
            have u2 := OpUp_enter Try.prog K
            go_simp
            exact hK _ _ (Stood.refl _) rfl
          refine StepsOK.cons ?_ ?_
          · -- 18: Go.Op.pick (Go.Operand.tmp 55) (Go.Operand.tmp 64) (Go.Operand.const (Go.Value.b
            intro a w1 hR1 hF hU hsz
            have e55 : a.eval (.tmp 55) = _ := hF 8 _ _ rfl rfl (by kernel_rfl)
            have e64 : a.eval (.tmp 64) = _ := hF 17 _ _ rfl rfl (by kernel_rfl)
            rw [if_pos (by rfl)]
            intro K hK
            clear hF hU hsz
            obtain ⟨q1, q2, q3⟩ := eval_rest a
            generalize hρ : a.eval = ρ
            rw [hρ] at q1 q2 q3 e55 e64
            clear hρ
            have u1 := OpUp_value Try.prog K
            have u2 := OpUp_enter Try.prog K
            go_simp
            exact hK _ _ (Stood.refl _) rfl
          refine StepsOK.cons ?_ ?_
          · -- 19: Go.Op.move (Go.Operand.tmp 65)
            intro a w1 hR1 hF hU hsz
            have e65 : a.eval (.tmp 65) = _ := hF 18 _ _ rfl rfl (by kernel_rfl)
            rw [if_pos (by rfl)]
            intro K hK
            clear hF hU hsz
            obtain ⟨q1, q2, q3⟩ := eval_rest a
            generalize hρ : a.eval = ρ
            rw [hρ] at q1 q2 q3 e65
            clear hρ
            have u1 := OpUp_value Try.prog K
            have u2 := OpUp_enter Try.prog K
            go_simp
            exact hK _ _ (Stood.refl _) rfl
          refine StepsOK.cons ?_ ?_
          · -- 20: Go.Op.load 45 (Go.Operand.tmp 3)
            intro a w1 hR1 hF hU hsz
            have e3 : a.eval (.tmp 3) = _ := hU 3 (by kernel_rfl)
            have e66 : a.eval (.tmp 66) = _ := hF 19 _ _ rfl rfl (by kernel_rfl)
            rw [wanted_guard (ops := _) rfl rfl rfl e66, if_pos (by rfl)]
            intro K hK
            clear hF hU hsz
            obtain ⟨c0, c1, c2, c3⟩ := HC.out _ (HB.out.trans ((Stood.cur hR1).mono HB.out.size))
            obtain ⟨d0, d1, d2, d3⟩ := HD.out _ (HB.out.trans ((Stood.cur hR1).mono HB.out.size))
            obtain ⟨q1, q2, q3⟩ := eval_rest a
            generalize hρ : a.eval = ρ
            rw [hρ] at q1 q2 q3 e3 e66
            clear hρ
            have u1 := OpUp_value Try.prog K
            have u2 := OpUp_enter Try.prog K
            go_simp
            exact hK _ _ (Stood.refl _) rfl
          refine StepsOK.cons ?_ ?_
          · -- 21: Go.Op.call { callee := Go.Callee.value (Go.Operand.func 37), args := #[Go.Operan
            intro a w1 hR1 hF hU hsz
            have e67 : a.eval (.tmp 67) = _ := hF 20 _ _ rfl rfl (by kernel_rfl)
            have e66 : a.eval (.tmp 66) = _ := hF 19 _ _ rfl rfl (by kernel_rfl)
            rw [wanted_guard (ops := _) rfl rfl rfl e66, if_pos (by rfl)]
            intro K hK
            clear hF hU hsz
            obtain ⟨q1, q2, q3⟩ := eval_rest a
            generalize hρ : a.eval = ρ
            rw [hρ] at q1 q2 q3 e66 e67
            clear hρ
            have u1 := OpUp_value Try.prog K
            have u2 := OpUp_enter Try.prog K
            go_simp
            refine (KK2.out _).mono ?_
            rintro e w' ⟨rfl, hb⟩
            exact ⟨_, rfl, hK _ _ hb rfl⟩
          refine StepsOK.cons ?_ ?_
          · -- 22: Go.Op.load 45 (Go.Operand.tmp 1)
            intro a w1 hR1 hF hU hsz
            have e1 : a.eval (.tmp 1) = _ := hU 1 (by kernel_rfl)
            have e66 : a.eval (.tmp 66) = _ := hF 19 _ _ rfl rfl (by kernel_rfl)
            rw [wanted_guard (ops := _) rfl rfl rfl e66, if_pos (by rfl)]
            intro K hK
            clear hF hU hsz
            obtain ⟨c0, c1, c2, c3⟩ := HC.out _ (HB.out.trans ((Stood.cur hR1).mono HB.out.size))
            obtain ⟨d0, d1, d2, d3⟩ := HD.out _ (HB.out.trans ((Stood.cur hR1).mono HB.out.size))
            obtain ⟨q1, q2, q3⟩ := eval_rest a
            generalize hρ : a.eval = ρ
            rw [hρ] at q1 q2 q3 e1 e66
            clear hρ
            have u1 := OpUp_value Try.prog K
            have u2 := OpUp_enter Try.prog K
            go_simp
            exact hK _ _ (Stood.refl _) rfl
          refine StepsOK.cons ?_ ?_
          · -- 23: Go.Op.call { callee := Go.Callee.value (Go.Operand.func 37), args := #[Go.Operan
            intro a w1 hR1 hF hU hsz
            have e69 : a.eval (.tmp 69) = _ := hF 22 _ _ rfl rfl (by kernel_rfl)
            have e66 : a.eval (.tmp 66) = _ := hF 19 _ _ rfl rfl (by kernel_rfl)
            rw [wanted_guard (ops := _) rfl rfl rfl e66, if_pos (by rfl)]
            intro K hK
            clear hF hU hsz
            obtain ⟨q1, q2, q3⟩ := eval_rest a
            generalize hρ : a.eval = ρ
            rw [hρ] at q1 q2 q3 e66 e69
            clear hρ
            have u1 := OpUp_value Try.prog K
            have u2 := OpUp_enter Try.prog K
            go_simp
            refine (KK.out _).mono ?_
            rintro e w' ⟨rfl, hb⟩
            exact ⟨_, rfl, hK _ _ hb rfl⟩
          refine StepsOK.cons ?_ ?_
          · -- 24: Go.Op.binOp Go.BinOp.add 3 (Go.Operand.tmp 70) (Go.Operand.const (Go.Value.int G
            intro a w1 hR1 hF hU hsz
            have e70 : a.eval (.tmp 70) = _ := hF 23 _ _ rfl rfl (by kernel_rfl)
            have e66 : a.eval (.tmp 66) = _ := hF 19 _ _ rfl rfl (by kernel_rfl)
            rw [wanted_guard (ops := _) rfl rfl rfl e66, if_pos (by rfl)]
            intro K hK
            clear hF hU hsz
            obtain ⟨q1, q2, q3⟩ := eval_rest a
            generalize hρ : a.eval = ρ
            rw [hρ] at q1 q2 q3 e66 e70
            clear hρ
            have u1 := OpUp_value Try.prog K
            have u2 := OpUp_enter Try.prog K
            go_simp
            exact hK _ _ (Stood.refl _) rfl
          refine StepsOK.cons ?_ ?_
          · -- 25: Go.Op.binOp Go.BinOp.eql 3 (Go.Operand.tmp 68) (Go.Operand.tmp 71) 3
            intro a w1 hR1 hF hU hsz
            have e68 : a.eval (.tmp 68) = _ := hF 21 _ _ rfl rfl (by kernel_rfl)
            have e71 : a.eval (.tmp 71) = _ := hF 24 _ _ rfl rfl (by kernel_rfl)
            have e66 : a.eval (.tmp 66) = _ := hF 19 _ _ rfl rfl (by kernel_rfl)
            rw [wanted_guard (ops := _) rfl rfl rfl e66, if_pos (by rfl)]
            intro K hK
            clear hF hU hsz
            obtain ⟨q1, q2, q3⟩ := eval_rest a
            generalize hρ : a.eval = ρ
            rw [hρ] at q1 q2 q3 e66 e68 e71
            clear hρ
            have u1 := OpUp_value Try.prog K
            have u2 := OpUp_enter Try.prog K
            go_simp
            exact hK _ _ (Stood.refl _) rfl
          refine StepsOK.cons ?_ ?_
          · -- 26: Go.Op.pick (Go.Operand.tmp 66) (Go.Operand.tmp 72) (Go.Operand.const (Go.Value.b
            intro a w1 hR1 hF hU hsz
            have e66 : a.eval (.tmp 66) = _ := hF 19 _ _ rfl rfl (by kernel_rfl)
            have e72 : a.eval (.tmp 72) = _ := hF 25 _ _ rfl rfl (by kernel_rfl)
            rw [if_pos (by rfl)]
            intro K hK
            clear hF hU hsz
            obtain ⟨q1, q2, q3⟩ := eval_rest a
            generalize hρ : a.eval = ρ
            rw [hρ] at q1 q2 q3 e66 e72
            clear hρ
            have u1 := OpUp_value Try.prog K
            have u2 := OpUp_enter Try.prog K
            go_simp
            exact hK _ _ (Stood.refl _) rfl
          refine StepsOK.cons ?_ ?_
          · -- 27: Go.Op.assign (Go.Operand.tmp 73)
            intro a w1 hR1 hF hU hsz
            have e73 : a.eval (.tmp 73) = _ := hF 26 _ _ rfl rfl (by kernel_rfl)
            rw [if_pos (by rfl)]
            intro K hK
            clear hF hU hsz
            obtain ⟨q1, q2, q3⟩ := eval_rest a
            generalize hρ : a.eval = ρ
            rw [hρ] at q1 q2 q3 e73
            clear hρ
            have u1 := OpUp_value Try.prog K
            have u2 := OpUp_enter Try.prog K
            go_simp
            exact hK _ _ (Stood.refl _) rfl
          exact StepsOK.nil
        case hend =>
          intro vs0 w1 hR1 hH0
          obtain ⟨vs1, rfl, hH1⟩ := hH0.eq_
          obtain ⟨vs2, rfl, hH2⟩ := hH1.eq_
          obtain ⟨vs3, rfl, hH3⟩ := hH2.eq_
          obtain ⟨vs4, rfl, hH4⟩ := hH3.eq_
          obtain ⟨vs5, rfl, hH5⟩ := hH4.eq_
          obtain ⟨vs6, rfl, hH6⟩ := hH5.eq_
          obtain ⟨vs7, rfl, hH7⟩ := hH6.eq_
          obtain ⟨vs8, rfl, hH8⟩ := hH7.eq_
          obtain ⟨vs9, rfl, hH9⟩ := hH8.eq_
          obtain ⟨vs10, rfl, hH10⟩ := hH9.eq_
          obtain ⟨vs11, rfl, hH11⟩ := hH10.eq_
          obtain ⟨vs12, rfl, hH12⟩ := hH11.eq_
          obtain ⟨vs13, rfl, hH13⟩ := hH12.eq_
          obtain ⟨vs14, rfl, hH14⟩ := hH13.eq_
          obtain ⟨vs15, rfl, hH15⟩ := hH14.eq_
          obtain ⟨vs16, rfl, hH16⟩ := hH15.eq_
          obtain ⟨vs17, rfl, hH17⟩ := hH16.eq_
          obtain ⟨vs18, rfl, hH18⟩ := hH17.eq_
          obtain ⟨vs19, rfl, hH19⟩ := hH18.eq_
          obtain ⟨vs20, rfl, hH20⟩ := hH19.eq_
          obtain ⟨vs21, rfl, hH21⟩ := hH20.eq_
          obtain ⟨vs22, rfl, hH22⟩ := hH21.eq_
          obtain ⟨vs23, rfl, hH23⟩ := hH22.eq_
          obtain ⟨vs24, rfl, hH24⟩ := hH23.eq_
          obtain ⟨vs25, rfl, hH25⟩ := hH24.eq_
          obtain ⟨vs26, rfl, hH26⟩ := hH25.eq_
          obtain ⟨vs27, rfl, hH27⟩ := hH26.eq_
          obtain ⟨vs28, rfl, hH28⟩ := hH27.eq_
          obtain rfl := hH28.nil
          clear hH0 hH1 hH2 hH3 hH4 hH5 hH6 hH7 hH8 hH9 hH10 hH11 hH12 hH13 hH14 hH15 hH16 hH17 hH18 hH19 hH20 hH21 hH22 hH23 hH24 hH25 hH26 hH27 hH28
          simp only [putAll, Act.put, List.setIfInBounds_toArray, List.set_cons_zero, List.set_cons_succ]
          have HB := Lib.hid (HB.out.trans ((Stood.cur hR1).mono HB.out.size))
          go_wp2
          go_ret
          exact ⟨rfl, HX.out.trans (HB.out.mono HX.out.size)⟩
      · have hm : g.b.tmod 512 = 0 := by rw [Int.tmod_eq_emod_of_nonneg (by omega)]; omega
        have hm2 : IntKind.i64.wrap (g.b.tmod 512) = 0 := by rw [hm]; rfl
        have hx1 : (x2 == x1) = false := by simpa using hx
        have hx2 : decide (x2 = x1) = false := decide_eq_false hx
        clear hs1 hs2 hs3 hs4 q1 q2 q3 q4 r1 r2 r3 r4 hIn hdn hg hh hx
        obtain ⟨b, n, c, k⟩ := g
        simp only [Geo.v] at *
        have HX0 := Lib.hid ((Below.refl w.heap.size w).alloc (Nat.le_refl _) (.cells #[.int .i64 b, .int .i64 n, .int .i64 c, .int .i64 k] 45))
        go_enter Try.func7, Try.ntmps7
        go_wp2_with fail
        refine (KA.out _).mono ?_
        rintro e w1 ⟨rfl, hb1⟩
        have HX1 := Lib.hid (HX0.out.trans (hb1.mono HX0.out.size))
        obtain ⟨c0, c1, c2, c3⟩ := geo_cells hb1
        have HC0 := Lib.hid (fun (W : World) (h : Below w1.heap.size w1 W) => geo_cells' hb1 h)
        clear hb1
        have HX := Lib.hid (HX1.out.alloc HX1.out.size (.cells #[.int .i64 (b + 1), .int .i64 n, .int .i64 c, .int .i64 k] 45))
        have HC := Lib.hid (fun (W : World) (h : Below (w1.alloc (.cells #[.int .i64 (b + 1), .int .i64 n, .int .i64 c, .int .i64 k] 45)).heap.size (w1.alloc (.cells #[.int .i64 (b + 1), .int .i64 n, .int .i64 c, .int .i64 k] 45)) W) => HC0.out W (((Below.refl w1.heap.size w1).alloc (Nat.le_refl _) _).trans (h.mono (by simp))))
        have HD := Lib.hid (fun (W : World) (h : Below (w1.alloc (.cells #[.int .i64 (b + 1), .int .i64 n, .int .i64 c, .int .i64 k] 45)).heap.size (w1.alloc (.cells #[.int .i64 (b + 1), .int .i64 n, .int .i64 c, .int .i64 k] 45)) W) => geo_cells h)
        have HB := Lib.hid (Below.refl (w1.alloc (.cells #[.int .i64 (b + 1), .int .i64 n, .int .i64 c, .int .i64 k] 45)).heap.size (w1.alloc (.cells #[.int .i64 (b + 1), .int .i64 n, .int .i64 c, .int .i64 k] 45)))
        obtain ⟨c0, c1, c2, c3⟩ := HC.out _ HB.out
        obtain ⟨d0, d1, d2, d3⟩ := HD.out _ HB.out
        go_wp2_with fail
        refine (KG.out _).mono ?_
        rintro e w2 ⟨rfl, hb⟩
        have HB := Lib.hid (HB.out.trans (hb.mono HB.out.size))
        obtain ⟨c0, c1, c2, c3⟩ := HC.out _ HB.out
        obtain ⟨d0, d1, d2, d3⟩ := HD.out _ HB.out
        clear hb
        go_wp2_with fail
        refine (KH.out _).mono ?_
        rintro e w3 ⟨rfl, hb⟩
        have HB := Lib.hid (HB.out.trans (hb.mono HB.out.size))
        obtain ⟨c0, c1, c2, c3⟩ := HC.out _ HB.out
        obtain ⟨d0, d1, d2, d3⟩ := HD.out _ HB.out
        clear hb
        go_wp2_with fail
        refine (KD.out _).mono ?_
        rintro e w4 ⟨rfl, hb⟩
        have HB := Lib.hid (HB.out.trans (hb.mono HB.out.size))
        obtain ⟨c0, c1, c2, c3⟩ := HC.out _ HB.out
        obtain ⟨d0, d1, d2, d3⟩ := HD.out _ HB.out
        clear hb
        go_wp2_with fail
        refine (KD2.out _).mono ?_
        rintro e w5 ⟨rfl, hb⟩
        have HB := Lib.hid (HB.out.trans (hb.mono HB.out.size))
        obtain ⟨c0, c1, c2, c3⟩ := HC.out _ HB.out
        obtain ⟨d0, d1, d2, d3⟩ := HD.out _ HB.out
        clear hb
        go_wp2_with fail
        refine (KB.out _).mono ?_
        rintro e w6 ⟨rfl, hb⟩
        have HB := Lib.hid (HB.out.trans (hb.mono HB.out.size))
        obtain ⟨c0, c1, c2, c3⟩ := HC.out _ HB.out
        obtain ⟨d0, d1, d2, d3⟩ := HD.out _ HB.out
        clear hb
        go_wp2_with fail
        refine (KB2.out _).mono ?_
        rintro e w7 ⟨rfl, hb⟩
        have HB := Lib.hid (HB.out.trans (hb.mono HB.out.size))
        obtain ⟨c0, c1, c2, c3⟩ := HC.out _ HB.out
        obtain ⟨d0, d1, d2, d3⟩ := HD.out _ HB.out
        clear hb
        go_wp2_with fail
        apply wp_region_inv' 74 (Eqs _ :: Eqs _ :: Eqs _ :: Eqs _ :: Eqs _ :: Eqs _ :: Eqs _ :: Eqs _ :: Eqs _ :: Eqs _ :: Eqs _ :: Eqs _ :: Eqs _ :: Eqs _ :: Eqs _ :: Eqs _ :: Eqs _ :: Eqs _ :: Eqs _ :: Eqs _ :: Eqs _ :: Eqs _ :: Eqs _ :: Eqs _ :: Eqs _ :: Eqs _ :: Eqs _ :: Eqs _ :: []) (by kernel_rfl) (by rfl) (stab_cons (stab_eq _) (stab_cons (stab_eq _) (stab_cons (stab_eq _) (stab_cons (stab_eq _) (stab_cons (stab_eq _) (stab_cons (stab_eq _) (stab_cons (stab_eq _) (stab_cons (stab_eq _) (stab_cons (stab_eq _) (stab_cons (stab_eq _) (stab_cons (stab_eq _) (stab_cons (stab_eq _) (stab_cons (stab_eq _) (stab_cons (stab_eq _) (stab_cons (stab_eq _) (stab_cons (stab_eq _) (stab_cons (stab_eq _) (stab_cons (stab_eq _) (stab_cons (stab_eq _) (stab_cons (stab_eq _) (stab_cons (stab_eq _) (stab_cons (stab_eq _) (stab_cons (stab_eq _) (stab_cons (stab_eq _) (stab_cons (stab_eq _) (stab_cons (stab_eq _) (stab_cons (stab_eq _) (stab_cons (stab_eq _) stab_nil)))))))))))))))))))))))))))) (by kernel_rfl) (by kernel_rfl)
        case hstep =>
          refine StepsOK.cons ?_ ?_
          · -- 0: Go.Op.move (Go.Operand.tmp 7)
            intro a w1 hR1 hF hU hsz
            have e7 : a.eval (.tmp 7) = _ := hU 7 (by kernel_rfl)
            rw [if_pos (by rfl)]
            intro K hK
            clear hF hU hsz
            obtain ⟨q1, q2, q3⟩ := eval_rest a
            generalize hρ : a.eval = ρ
            rw [hρ] at q1 q2 q3 e7
            clear hρ
            have u1 := OpUp_value Try.prog K
            have u2 := OpUp_enter Try.prog K
            go_simp
            exact hK _ _ (Stood.refl _) rfl
          refine StepsOK.cons ?_ ?_
          · -- 1: Go.Op.move (Go.Operand.tmp 11)
            intro a w1 hR1 hF hU hsz
            have e11 : a.eval (.tmp 11) = _ := hU 11 (by kernel_rfl)
            rw [if_pos (by rfl)]
            intro K hK
            clear hF hU hsz
            obtain ⟨q1, q2, q3⟩ := eval_rest a
            generalize hρ : a.eval = ρ
            rw [hρ] at q1 q2 q3 e11
            clear hρ
            have u1 := OpUp_value Try.prog K
            have u2 := OpUp_enter Try.prog K
            go_simp
            exact hK _ _ (Stood.refl _) rfl
          refine StepsOK.cons ?_ ?_
          · -- 2: Go.Op.binOp Go.BinOp.add 3 (Go.Operand.tmp 47) (Go.Operand.tmp 48) 3
            intro a w1 hR1 hF hU hsz
            have e47 : a.eval (.tmp 47) = _ := hF 0 _ _ rfl rfl (by kernel_rfl)
            have e48 : a.eval (.tmp 48) = _ := hF 1 _ _ rfl rfl (by kernel_rfl)
            rw [if_pos (by rfl)]
            intro K hK
            clear hF hU hsz
            obtain ⟨q1, q2, q3⟩ := eval_rest a
            generalize hρ : a.eval = ρ
            rw [hρ] at q1 q2 q3 e47 e48
            clear hρ
            have u1 := OpUp_value Try.prog K
            have u2 := OpUp_enter Try.prog K
            go_simp
            exact hK _ _ (Stood.refl _) rfl
          refine StepsOK.cons ?_ ?_
          · -- 3: Go.Op.move (Go.Operand.tmp 5)
            intro a w1 hR1 hF hU hsz
            have e5 : a.eval (.tmp 5) = _ := hU 5 (by kernel_rfl)
            rw [if_pos (by rfl)]
            intro K hK
            clear hF hU hsz
            obtain ⟨q1, q2, q3⟩ := eval_rest a
            generalize hρ : a.eval = ρ
            rw [hρ] at q1 q2 q3 e5
            clear hρ
            have u1 := OpUp_value Try.prog K
            have u2 := OpUp_enter Try.prog K
            go_simp
            exact hK _ _ (Stood.refl _) rfl
          refine StepsOK.cons ?_ ?_
          · -- 4: Go.Op.move (Go.Operand.tmp 9)
            intro a w1 hR1 hF hU hsz
            have e9 : a.eval (.tmp 9) = _ := hU 9 (by kernel_rfl)
            rw [if_pos (by rfl)]
            intro K hK
            clear hF hU hsz
            obtain ⟨q1, q2, q3⟩ := eval_rest a
            generalize hρ : a.eval = ρ
            rw [hρ] at q1 q2 q3 e9
            clear hρ
            have u1 := OpUp_value Try.prog K
            have u2 := OpUp_enter Try.prog K
            go_simp
            exact hK _ _ (Stood.refl _) rfl
          refine StepsOK.cons ?_ ?_
          · -- 5: Go.Op.binOp Go.BinOp.add 3 (Go.Operand.tmp 50) (Go.Operand.tmp 51) 3
            intro a w1 hR1 hF hU hsz
            have e50 : a.eval (.tmp 50) = _ := hF 3 _ _ rfl rfl (by kernel_rfl)
            have e51 : a.eval (.tmp 51) = _ := hF 4 _ _ rfl rfl (by kernel_rfl)
            rw [if_pos (by rfl)]
            intro K hK
            clear hF hU hsz
            obtain ⟨q1, q2, q3⟩ := eval_rest a
            generalize hρ : a.eval = ρ
            rw [hρ] at q1 q2 q3 e50 e51
            clear hρ
            have u1 := OpUp_value Try.prog K
            have u2 := OpUp_enter Try.prog K
            go_simp
            exact hK _ _ (Stood.refl _) rfl
          refine StepsOK.cons ?_ ?_
          · -- 6: Go.Op.binOp Go.BinOp.add 3 (Go.Operand.tmp 52) (Go.Operand.const (Go.Value.int G
            intro a w1 hR1 hF hU hsz
            have e52 : a.eval (.tmp 52) = _ := hF 5 _ _ rfl rfl (by kernel_rfl)
            rw [if_pos (by rfl)]
            intro K hK
            clear hF hU hsz
            obtain ⟨q1, q2, q3⟩ := eval_rest a
            generalize hρ : a.eval = ρ
            rw [hρ] at q1 q2 q3 e52
            clear hρ
            have u1 := OpUp_value Try.prog K
            have u2 := OpUp_enter Try.prog K
            go_simp
            exact hK _ _ (Stood.refl _) rfl
          refine StepsOK.cons ?_ ?_
          · -- 7: Go.Op.binOp Go.BinOp.eql 3 (Go.Operand.tmp 49) (Go.Operand.tmp 53) 3
            intro a w1 hR1 hF hU hsz
            have e49 : a.eval (.tmp 49) = _ := hF 2 _ _ rfl rfl (by kernel_rfl)
            have e53 : a.eval (.tmp 53) = _ := hF 6 _ _ rfl rfl (by kernel_rfl)
            rw [if_pos (by rfl)]
            intro K hK
            clear hF hU hsz
            obtain ⟨q1, q2, q3⟩ := eval_rest a
            generalize hρ : a.eval = ρ
            rw [hρ] at q1 q2 q3 e49 e53
            clear hρ
            have u1 := OpUp_value Try.prog K
            have u2 := OpUp_enter Try.prog K
            go_simp
            exact hK _ _ (Stood.refl _) rfl
          refine StepsOK.cons ?_ ?_
          · -- 8: Go.Op.move (Go.Operand.tmp 54)
            intro a w1 hR1 hF hU hsz
            have e54 : a.eval (.tmp 54) = _ := hF 7 _ _ rfl rfl (by kernel_rfl)
            rw [if_pos (by rfl)]
            intro K hK
            clear hF hU hsz
            obtain ⟨q1, q2, q3⟩ := eval_rest a
            generalize hρ : a.eval = ρ
            rw [hρ] at q1 q2 q3 e54
            clear hρ
            have u1 := OpUp_value Try.prog K
            have u2 := OpUp_enter Try.prog K
            go_simp
            exact hK _ _ (Stood.refl _) rfl
          refine StepsOK.cons ?_ ?_
          · -- 9: Go.Op.move (Go.Operand.tmp 11)
            intro a w1 hR1 hF hU hsz
            have e11 : a.eval (.tmp 11) = _ := hU 11 (by kernel_rfl)
            have e55 : a.eval (.tmp 55) = _ := hF 8 _ _ rfl rfl (by kernel_rfl)
            rw [wanted_guard (ops := _) rfl rfl rfl e55, if_pos (by rfl)]
            intro K hK
            clear hF hU hsz
            obtain ⟨q1, q2, q3⟩ := eval_rest a
            generalize hρ : a.eval = ρ
            rw [hρ] at q1 q2 q3 e11 e55
            clear hρ
            have u1 := OpUp_value Try.prog K
            have u2 := OpUp_enter Try.prog K
            go_simp
            exact hK _ _ (Stood.refl _) rfl
          refine StepsOK.cons ?_ ?_
          · -- 10: Go.Op.move (Go.Operand.tmp 9)
            intro a w1 hR1 hF hU hsz
            have e9 : a.eval (.tmp 9) = _ := hU 9 (by kernel_rfl)
            have e55 : a.eval (.tmp 55) = _ := hF 8 _ _ rfl rfl (by kernel_rfl)
            rw [wanted_guard (ops := _) rfl rfl rfl e55, if_pos (by rfl)]
            intro K hK
            clear hF hU hsz
            obtain ⟨q1, q2, q3⟩ := eval_rest a
            generalize hρ : a.eval = ρ
            rw [hρ] at q1 q2 q3 e9 e55
            clear hρ
            have u1 := OpUp_value Try.prog K
            have u2 := OpUp_enter Try.prog K
            go_simp
            exact hK _ _ (Stood.refl _) rfl
          refine StepsOK.cons ?_ ?_
          · -- 11: Go.Op.binOp Go.BinOp.eql 3 (Go.Operand.tmp 56) (Go.Operand.tmp 57) 3
            intro a w1 hR1 hF hU hsz
            have e56 : a.eval (.tmp 56) = _ := hF 9 _ _ rfl rfl (by kernel_rfl)
            have e57 : a.eval (.tmp 57) = _ := hF 10 _ _ rfl rfl (by kernel_rfl)
            have e55 : a.eval (.tmp 55) = _ := hF 8 _ _ rfl rfl (by kernel_rfl)
            rw [wanted_guard (ops := _) rfl rfl rfl e55, if_pos (by rfl)]
            intro K hK
            clear hF hU hsz
            obtain ⟨q1, q2, q3⟩ := eval_rest a
            generalize hρ : a.eval = ρ
            rw [hρ] at q1 q2 q3 e55 e56 e57
            clear hρ
            have u1 := OpUp_value Try.prog K
            have u2 := OpUp_enter Try.prog K
            go_simp
            exact hK _ _ (Stood.refl _) rfl
          refine StepsOK.cons ?_ ?_
          · -- 12: Go.Op.move (Go.Operand.tmp 58)
            intro a w1 hR1 hF hU hsz
            have e58 : a.eval (.tmp 58) = _ := hF 11 _ _ rfl rfl (by kernel_rfl)
            have e55 : a.eval (.tmp 55) = _ := hF 8 _ _ rfl rfl (by kernel_rfl)
            rw [wanted_guard (ops := _) rfl rfl rfl e55, if_pos (by rfl)]
            intro K hK
            clear hF hU hsz
            obtain ⟨q1, q2, q3⟩ := eval_rest a
            generalize hρ : a.eval = ρ
            rw [hρ] at q1 q2 q3 e55 e58
            clear hρ
            have u1 := OpUp_value Try.prog K
            have u2 := OpUp_enter Try.prog K
            go_simp
            exact hK _ _ (Stood.refl _) rfl
          refine StepsOK.cons ?_ ?_
          · -- 13: Go.Op.fieldAddr 45 (Go.Operand.tmp 1) 0
            intro a w1 hR1 hF hU hsz
            have e1 : a.eval (.tmp 1) = _ := hU 1 (by kernel_rfl)
            have e59 : a.eval (.tmp 59) = _ := hF 12 _ _ rfl rfl (by kernel_rfl)
            rw [wanted_guard (ops := _) rfl rfl rfl e59, if_pos (by rfl)]
            intro K hK
            clear hF hU hsz
            obtain ⟨q1, q2, q3⟩ := eval_rest a
            generalize hρ : a.eval = ρ
            rw [hρ] at q1 q2 q3 e1 e59
            clear hρ
            have u1 := OpUp_value Try.prog K
            have u2 := OpUp_enter Try.prog K
            go_simp
            exact hK _ _ (Stood.refl _) rfl
          refine StepsOK.cons ?_ ?_
          · -- 14: Go.Op.load 3 (Go.Operand.tmp 60)
            intro a w1 hR1 hF hU hsz
            have e60 : a.eval (.tmp 60) = _ := hF 13 _ _ rfl rfl (by kernel_rfl)
            have e59 : a.eval (.tmp 59) = _ := hF 12 _ _ rfl rfl (by kernel_rfl)
            rw [wanted_guard (ops := _) rfl rfl rfl e59, if_pos (by rfl)]
            intro K hK
            clear hF hU hsz
            obtain ⟨c0, c1, c2, c3⟩ := HC.out _ (HB.out.trans ((Stood.cur hR1).mono HB.out.size))
            obtain ⟨d0, d1, d2, d3⟩ := HD.out _ (HB.out.trans ((Stood.cur hR1).mono HB.out.size))
            obtain ⟨q1, q2, q3⟩ := eval_rest a
            generalize hρ : a.eval = ρ
            rw [hρ] at q1 q2 q3 e59 e60
            clear hρ
            have u1 := OpUp_value Try.prog K
            have u2 := OpUp_enter Try.prog K
            go_simp
            exact hK _ _ (Stood.refl _) rfl
          refine StepsOK.cons ?_ ?_
          · -- 15: Go.Op.binOp Go.BinOp.rem 3 (Go.Operand.tmp 61) (Go.Operand.const (Go.Value.int G
            intro a w1 hR1 hF hU hsz
            have e61 : a.eval (.tmp 61) = _ := hF 14 _ _ rfl rfl (by kernel_rfl)
            have e59 : a.eval (.tmp 59) = _ := hF 12 _ _ rfl rfl (by kernel_rfl)
            rw [wanted_guard (ops := _) rfl rfl rfl e59, if_pos (by rfl)]
            intro K hK
            clear hF hU hsz
            obtain ⟨q1, q2, q3⟩ := eval_rest a
            generalize hρ : a.eval = ρ
            rw [hρ] at q1 q2 q3 e59 e61
            clear hρ
            have u1 := OpUp_value Try.prog K
            have u2 := OpUp_enter Try.prog K
            go_simp
            exact hK _ _ (Stood.refl _) rfl
          refine StepsOK.cons ?_ ?_
          · -- 16: Go.Op.binOp Go.BinOp.eql 3 (Go.Operand.tmp 62) (Go.Operand.const (Go.Value.int G
            intro a w1 hR1 hF hU hsz
            have e62 : a.eval (.tmp 62) = _ := hF 15 _ _ rfl rfl (by kernel_rfl)
            have e59 : a.eval (.tmp 59) = _ := hF 12 _ _ rfl rfl (by kernel_rfl)
            rw [wanted_guard (ops := _) rfl rfl rfl e59, if_pos (by rfl)]
            intro K hK
            clear hF hU hsz
            obtain ⟨q1, q2, q3⟩ := eval_rest a
            generalize hρ : a.eval = ρ
            rw [hρ] at q1 q2 q3 e59 e62
            clear hρ
            have u1 := OpUp_value Try.prog K
            have u2 := OpUp_enter Try.prog K
            go_simp
            exact hK _ _ (Stood.refl _) rfl
          refine StepsOK.cons ?_ ?_
          · -- 17: Go.Op.pick (Go.Operand.tmp 59) (Go.Operand.const (Go.Value.bool true)) (Go.Opera
            intro a w1 hR1 hF hU hsz
            have e59 : a.eval (.tmp 59) = _ := hF 12 _ _ rfl rfl (by kernel_rfl)
            have e63 : a.eval (.tmp 63) = _ := hF 16 _ _ rfl rfl (by kernel_rfl)
            have e55 : a.eval (.tmp 55) = _ := hF 8 _ _ rfl rfl (by kernel_rfl)
            rw [wanted_guard (ops := _) rfl rfl rfl e55, if_pos (by rfl)]
            intro K hK
            clear hF hU hsz
            obtain ⟨q1, q2, q3⟩ := eval_rest a
            generalize hρ : a.eval = ρ
            rw [hρ] at q1 q2 q3 e55 e59 e63
            clear hρ
            have u1 := OpUp_value Try.prog K
            have u2 := OpUp_enter Try.prog K
            go_simp
            exact hK _ _ (Stood.refl _) rfl
          refine StepsOK.cons ?_ ?_
          · -- 18: Go.Op.pick (Go.Operand.tmp 55) (Go.Operand.tmp 64) (Go.Operand.const (Go.Value.b
            intro a w1 hR1 hF hU hsz
            have e55 : a.eval (.tmp 55) = _ := hF 8 _ _ rfl rfl (by kernel_rfl)
            have e64 : a.eval (.tmp 64) = _ := hF 17 _ _ rfl rfl (by kernel_rfl)
            rw [if_pos (by rfl)]
            intro K hK
            clear hF hU hsz
            obtain ⟨q1, q2, q3⟩ := eval_rest a
            generalize hρ : a.eval = ρ
            rw [hρ] at q1 q2 q3 e55 e64
            clear hρ
            have u1 := OpUp_value Try.prog K
            have u2 := OpUp_enter Try.prog K
            go_simp
            exact hK _ _ (Stood.refl _) rfl
          refine StepsOK.cons ?_ ?_
          · -- 19: Go.Op.move (Go.Operand.tmp 65)
            intro a w1 hR1 hF hU hsz
            have e65 : a.eval (.tmp 65) = _ := hF 18 _ _ rfl rfl (by kernel_rfl)
            rw [if_pos (by rfl)]
            intro K hK
            clear hF hU hsz
            obtain ⟨q1, q2, q3⟩ := eval_rest a
            generalize hρ : a.eval = ρ
            rw [hρ] at q1 q2 q3 e65
            clear hρ
            have u1 := OpUp_value Try.prog K
            have u2 := OpUp_enter Try.prog K
            go_simp
            exact hK _ _ (Stood.refl _) rfl
          refine StepsOK.cons ?_ ?_
          · -- 20: Go.Op.load 45 (Go.Operand.tmp 3)
            intro a w1 hR1 hF hU hsz
            have e3 : a.eval (.tmp 3) = _ := hU 3 (by kernel_rfl)
            have e66 : a.eval (.tmp 66) = _ := hF 19 _ _ rfl rfl (by kernel_rfl)
            rw [wanted_guard (ops := _) rfl rfl rfl e66, if_pos (by rfl)]
            intro K hK
            clear hF hU hsz
            obtain ⟨c0, c1, c2, c3⟩ := HC.out _ (HB.out.trans ((Stood.cur hR1).mono HB.out.size))
            obtain ⟨d0, d1, d2, d3⟩ := HD.out _ (HB.out.trans ((Stood.cur hR1).mono HB.out.size))
            obtain ⟨q1, q2, q3⟩ := eval_rest a
            generalize hρ : a.eval = ρ
            rw [hρ] at q1 q2 q3 e3 e66
            clear hρ
            have u1 := OpUp_value Try.prog K
            have u2 := OpUp_enter Try.prog K
            go_simp
            exact hK _ _ (Stood.refl _) rfl
          refine StepsOK.cons ?_ ?_
          · -- 21: Go.Op.call { callee := Go.Callee.value (Go.Operand.func 37), args := #[Go.Operan
            intro a w1 hR1 hF hU hsz
            have e67 : a.eval (.tmp 67) = _ := hF 20 _ _ rfl rfl (by kernel_rfl)
            have e66 : a.eval (.tmp 66) = _ := hF 19 _ _ rfl rfl (by kernel_rfl)
            rw [wanted_guard (ops := _) rfl rfl rfl e66, if_pos (by rfl)]
            intro K hK
            clear hF hU hsz
            obtain ⟨q1, q2, q3⟩ := eval_rest a
            generalize hρ : a.eval = ρ
            rw [hρ] at q1 q2 q3 e66 e67
            clear hρ
            have u1 := OpUp_value Try.prog K
            have u2 := OpUp_enter Try.prog K
            go_simp
            refine (KK2.out _).mono ?_
            rintro e w' ⟨rfl, hb⟩
            exact ⟨_, rfl, hK _ _ hb rfl⟩
          refine StepsOK.cons ?_ ?_
          · -- 22: Go.Op.load 45 (Go.Operand.tmp 1)
            intro a w1 hR1 hF hU hsz
            have e1 : a.eval (.tmp 1) = _ := hU 1 (by kernel_rfl)
            have e66 : a.eval (.tmp 66) = _ := hF 19 _ _ rfl rfl (by kernel_rfl)
            rw [wanted_guard (ops := _) rfl rfl rfl e66, if_pos (by rfl)]
            intro K hK
            clear hF hU hsz
            obtain ⟨c0, c1, c2, c3⟩ := HC.out _ (HB.out.trans ((Stood.cur hR1).mono HB.out.size))
            obtain ⟨d0, d1, d2, d3⟩ := HD.out _ (HB.out.trans ((Stood.cur hR1).mono HB.out.size))
            obtain ⟨q1, q2, q3⟩ := eval_rest a
            generalize hρ : a.eval = ρ
            rw [hρ] at q1 q2 q3 e1 e66
            clear hρ
            have u1 := OpUp_value Try.prog K
            have u2 := OpUp_enter Try.prog K
            go_simp
            exact hK _ _ (Stood.refl _) rfl
          refine StepsOK.cons ?_ ?_
          · -- 23: Go.Op.call { callee := Go.Callee.value (Go.Operand.func 37), args := #[Go.Operan
            intro a w1 hR1 hF hU hsz
            have e69 : a.eval (.tmp 69) = _ := hF 22 _ _ rfl rfl (by kernel_rfl)
            have e66 : a.eval (.tmp 66) = _ := hF 19 _ _ rfl rfl (by kernel_rfl)
            rw [wanted_guard (ops := _) rfl rfl rfl e66, if_pos (by rfl)]
            intro K hK
            clear hF hU hsz
            obtain ⟨q1, q2, q3⟩ := eval_rest a
            generalize hρ : a.eval = ρ
            rw [hρ] at q1 q2 q3 e66 e69
            clear hρ
            have u1 := OpUp_value Try.prog K
            have u2 := OpUp_enter Try.prog K
            go_simp
            refine (KK.out _).mono ?_
            rintro e w' ⟨rfl, hb⟩
            exact ⟨_, rfl, hK _ _ hb rfl⟩
          refine StepsOK.cons ?_ ?_
          · -- 24: Go.Op.binOp Go.BinOp.add 3 (Go.Operand.tmp 70) (Go.Operand.const (Go.Value.int G
            intro a w1 hR1 hF hU hsz
            have e70 : a.eval (.tmp 70) = _ := hF 23 _ _ rfl rfl (by kernel_rfl)
            have e66 : a.eval (.tmp 66) = _ := hF 19 _ _ rfl rfl (by kernel_rfl)
            rw [wanted_guard (ops := _) rfl rfl rfl e66, if_pos (by rfl)]
            intro K hK
            clear hF hU hsz
            obtain ⟨q1, q2, q3⟩ := eval_rest a
            generalize hρ : a.eval = ρ
            rw [hρ] at q1 q2 q3 e66 e70
            clear hρ
            have u1 := OpUp_value Try.prog K
            have u2 := OpUp_enter Try.prog K
            go_simp
            exact hK _ _ (Stood.refl _) rfl
          refine StepsOK.cons ?_ ?_
          · -- 25: Go.Op.binOp Go.BinOp.eql 3 (Go.Operand.tmp 68) (Go.Operand.tmp 71) 3
            intro a w1 hR1 hF hU hsz
            have e68 : a.eval (.tmp 68) = _ := hF 21 _ _ rfl rfl (by kernel_rfl)
            have e71 : a.eval (.tmp 71) = _ := hF 24 _ _ rfl rfl (by kernel_rfl)
            have e66 : a.eval (.tmp 66) = _ := hF 19 _ _ rfl rfl (by kernel_rfl)
            rw [wanted_guard (ops := _) rfl rfl rfl e66, if_pos (by rfl)]
            intro K hK
            clear hF hU hsz
            obtain ⟨q1, q2, q3⟩ := eval_rest a
            generalize hρ : a.eval = ρ
            rw [hρ] at q1 q2 q3 e66 e68 e71
            clear hρ
            have u1 := OpUp_value Try.prog K
            have u2 := OpUp_enter Try.prog K
            go_simp
            exact hK _ _ (Stood.refl _) rfl
          refine StepsOK.cons ?_ ?_
          · -- 26: Go.Op.pick (Go.Operand.tmp 66) (Go.Operand.tmp 72) (Go.Operand.const (Go.Value.b
            intro a w1 hR1 hF hU hsz
            have e66 : a.eval (.tmp 66) = _ := hF 19 _ _ rfl rfl (by kernel_rfl)
            have e72 : a.eval (.tmp 72) = _ := hF 25 _ _ rfl rfl (by kernel_rfl)
            rw [if_pos (by rfl)]
            intro K hK
            clear hF hU hsz
            obtain ⟨q1, q2, q3⟩ := eval_rest a
            generalize hρ : a.eval = ρ
            rw [hρ] at q1 q2 q3 e66 e72
            clear hρ
            have u1 := OpUp_value Try.prog K
            have u2 := OpUp_enter Try.prog K
            go_simp
            exact hK _ _ (Stood.refl _) rfl
          refine StepsOK.cons ?_ ?_
          · -- 27: Go.Op.assign (Go.Operand.tmp 73)
            intro a w1 hR1 hF hU hsz
            have e73 : a.eval (.tmp 73) = _ := hF 26 _ _ rfl rfl (by kernel_rfl)
            rw [if_pos (by rfl)]
            intro K hK
            clear hF hU hsz
            obtain ⟨q1, q2, q3⟩ := eval_rest a
            generalize hρ : a.eval = ρ
            rw [hρ] at q1 q2 q3 e73
            clear hρ
            have u1 := OpUp_value Try.prog K
            have u2 := OpUp_enter Try.prog K
            go_simp
            exact hK _ _ (Stood.refl _) rfl
          exact StepsOK.nil
        case hend =>
          intro vs0 w1 hR1 hH0
          obtain ⟨vs1, rfl, hH1⟩ := hH0.eq_
          obtain ⟨vs2, rfl, hH2⟩ := hH1.eq_
          obtain ⟨vs3, rfl, hH3⟩ := hH2.eq_
          obtain ⟨vs4, rfl, hH4⟩ := hH3.eq_
          obtain ⟨vs5, rfl, hH5⟩ := hH4.eq_
          obtain ⟨vs6, rfl, hH6⟩ := hH5.eq_
          obtain ⟨vs7, rfl, hH7⟩ := hH6.eq_
          obtain ⟨vs8, rfl, hH8⟩ := hH7.eq_
          obtain ⟨vs9, rfl, hH9⟩ := hH8.eq_
          obtain ⟨vs10, rfl, hH10⟩ := hH9.eq_
          obtain ⟨vs11, rfl, hH11⟩ := hH10.eq_
          obtain ⟨vs12, rfl, hH12⟩ := hH11.eq_
          obtain ⟨vs13, rfl, hH13⟩ := hH12.eq_
          obtain ⟨vs14, rfl, hH14⟩ := hH13.eq_
          obtain ⟨vs15, rfl, hH15⟩ := hH14.eq_
          obtain ⟨vs16, rfl, hH16⟩ := hH15.eq_
          obtain ⟨vs17, rfl, hH17⟩ := hH16.eq_
          obtain ⟨vs18, rfl, hH18⟩ := hH17.eq_
          obtain ⟨vs19, rfl, hH19⟩ := hH18.eq_
          obtain ⟨vs20, rfl, hH20⟩ := hH19.eq_
          obtain ⟨vs21, rfl, hH21⟩ := hH20.eq_
          obtain ⟨vs22, rfl, hH22⟩ := hH21.eq_
          obtain ⟨vs23, rfl, hH23⟩ := hH22.eq_
          obtain ⟨vs24, rfl, hH24⟩ := hH23.eq_
          obtain ⟨vs25, rfl, hH25⟩ := hH24.eq_
          obtain ⟨vs26, rfl, hH26⟩ := hH25.eq_
          obtain ⟨vs27, rfl, hH27⟩ := hH26.eq_
          obtain ⟨vs28, rfl, hH28⟩ := hH27.eq_
          obtain rfl := hH28.nil
          clear hH0 hH1 hH2 hH3 hH4 hH5 hH6 hH7 hH8 hH9 hH10 hH11 hH12 hH13 hH14 hH15 hH16 hH17 hH18 hH19 hH20 hH21 hH22 hH23 hH24 hH25 hH26 hH27 hH28
          simp only [putAll, Act.put, List.setIfInBounds_toArray, List.set_cons_zero, List.set_cons_succ]
          have HB := Lib.hid (HB.out.trans ((Stood.cur hR1).mono HB.out.size))
          go_wp2
          go_ret
          exact ⟨rfl, HX.out.trans (HB.out.mono HX.out.size)⟩
    · have hh' : (Geo.mk (g.b + 1) g.n g.c g.k).good = false := by simpa using hh
      rw [hh'] at KH
      clear hg hIn hdn hh hh'
      obtain ⟨b, n, c, k⟩ := g
      simp only [Geo.v] at *
      have HX0 := Lib.hid ((Below.refl w.heap.size w).alloc (Nat.le_refl _) (.cells #[.int .i64 b, .int .i64 n, .int .i64 c, .int .i64 k] 45))
      go_enter Try.func7, Try.ntmps7
      go_wp2_with fail
      refine (KA.out _).mono ?_
      rintro e w1 ⟨rfl, hb1⟩
      have HX1 := Lib.hid (HX0.out.trans (hb1.mono HX0.out.size))
      obtain ⟨c0, c1, c2, c3⟩ := geo_cells hb1
      have HC0 := Lib.hid (fun (W : World) (h : Below w1.heap.size w1 W) => geo_cells' hb1 h)
      clear hb1
      have HX := Lib.hid (HX1.out.alloc HX1.out.size (.cells #[.int .i64 (b + 1), .int .i64 n, .int .i64 c, .int .i64 k] 45))
      have HC := Lib.hid (fun (W : World) (h : Below (w1.alloc (.cells #[.int .i64 (b + 1), .int .i64 n, .int .i64 c, .int .i64 k] 45)).heap.size (w1.alloc (.cells #[.int .i64 (b + 1), .int .i64 n, .int .i64 c, .int .i64 k] 45)) W) => HC0.out W (((Below.refl w1.heap.size w1).alloc (Nat.le_refl _) _).trans (h.mono (by simp))))
      have HD := Lib.hid (fun (W : World) (h : Below (w1.alloc (.cells #[.int .i64 (b + 1), .int .i64 n, .int .i64 c, .int .i64 k] 45)).heap.size (w1.alloc (.cells #[.int .i64 (b + 1), .int .i64 n, .int .i64 c, .int .i64 k] 45)) W) => geo_cells h)
      have HB := Lib.hid (Below.refl (w1.alloc (.cells #[.int .i64 (b + 1), .int .i64 n, .int .i64 c, .int .i64 k] 45)).heap.size (w1.alloc (.cells #[.int .i64 (b + 1), .int .i64 n, .int .i64 c, .int .i64 k] 45)))
      obtain ⟨c0, c1, c2, c3⟩ := HC.out _ HB.out
      obtain ⟨d0, d1, d2, d3⟩ := HD.out _ HB.out
      go_wp2_with fail
      refine (KG.out _).mono ?_
      rintro e w2 ⟨rfl, hb⟩
      have HB := Lib.hid (HB.out.trans (hb.mono HB.out.size))
      obtain ⟨c0, c1, c2, c3⟩ := HC.out _ HB.out
      obtain ⟨d0, d1, d2, d3⟩ := HD.out _ HB.out
      clear hb
      go_wp2_with fail
      refine (KH.out _).mono ?_
      rintro e w3 ⟨rfl, hb⟩
      have HB := Lib.hid (HB.out.trans (hb.mono HB.out.size))
      obtain ⟨c0, c1, c2, c3⟩ := HC.out _ HB.out
      obtain ⟨d0, d1, d2, d3⟩ := HD.out _ HB.out
      clear hb
      go_wp2
      go_ret
      exact ⟨rfl, HX.out.trans (HB.out.mono HX.out.size)⟩
  · have hg' : g.good = false := by simpa using hg
    rw [hg'] at KG
    obtain ⟨bb, e0⟩ : ∃ bb, IntKind.i64.wrap (g.b + 1) = bb := ⟨_, rfl⟩
    clear hg hg'
    obtain ⟨b, n, c, k⟩ := g
    simp only [Geo.v] at *
    have HX0 := Lib.hid ((Below.refl w.heap.size w).alloc (Nat.le_refl _) (.cells #[.int .i64 b, .int .i64 n, .int .i64 c, .int .i64 k] 45))
    go_enter Try.func7, Try.ntmps7
    go_wp2_with fail
    refine (KA.out _).mono ?_
    rintro e w1 ⟨rfl, hb1⟩
    have HX1 := Lib.hid (HX0.out.trans (hb1.mono HX0.out.size))
    obtain ⟨c0, c1, c2, c3⟩ := geo_cells hb1
    have HC0 := Lib.hid (fun (W : World) (h : Below w1.heap.size w1 W) => geo_cells' hb1 h)
    clear hb1
    have HX := Lib.hid (HX1.out.alloc HX1.out.size (.cells #[.int .i64 bb, .int .i64 n, .int .i64 c, .int .i64 k] 45))
    have HC := Lib.hid (fun (W : World) (h : Below (w1.alloc (.cells #[.int .i64 bb, .int .i64 n, .int .i64 c, .int .i64 k] 45)).heap.size (w1.alloc (.cells #[.int .i64 bb, .int .i64 n, .int .i64 c, .int .i64 k] 45)) W) => HC0.out W (((Below.refl w1.heap.size w1).alloc (Nat.le_refl _) _).trans (h.mono (by simp))))
    have HD := Lib.hid (fun (W : World) (h : Below (w1.alloc (.cells #[.int .i64 bb, .int .i64 n, .int .i64 c, .int .i64 k] 45)).heap.size (w1.alloc (.cells #[.int .i64 bb, .int .i64 n, .int .i64 c, .int .i64 k] 45)) W) => geo_cells h)
    have HB := Lib.hid (Below.refl (w1.alloc (.cells #[.int .i64 bb, .int .i64 n, .int .i64 c, .int .i64 k] 45)).heap.size (w1.alloc (.cells #[.int .i64 bb, .int .i64 n, .int .i64 c, .int .i64 k] 45)))
    obtain ⟨c0, c1, c2, c3⟩ := HC.out _ HB.out
    obtain ⟨d0, d1, d2, d3⟩ := HD.out _ HB.out
    go_wp2_with fail
    refine (KG.out _).mono ?_
    rintro e w2 ⟨rfl, hb⟩
    have HB := Lib.hid (HB.out.trans (hb.mono HB.out.size))
    obtain ⟨c0, c1, c2, c3⟩ := HC.out _ HB.out
    obtain ⟨d0, d1, d2, d3⟩ := HD.out _ HB.out
    clear hb
    go_wp2
    go_ret
    exact ⟨rfl, HX.out.trans (HB.out.mono HX.out.size)⟩
end Go.Proofs.Ytdadplpibdjjbaa
