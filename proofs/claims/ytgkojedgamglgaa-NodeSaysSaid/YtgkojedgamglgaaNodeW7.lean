/- The walk of node.Good. Condition: the runs can be read. -/
import Derived.Test.YtgkojedgamglgaaNodeW6
import Derived.Test.YtgkojedgamglgaaNodeW3
import Derived.Test.YtgkojedgamglgaaNodeLongW
namespace Go.Proofs.Ytgkojedgamglgaa
open Go.RowKit
set_option linter.unusedVariables false
set_option linter.unusedSimpArgs false
set_option maxRecDepth 100000 in
set_option maxHeartbeats 8000000 in
theorem nGood_any (g : Geo) (n : NodeN) (A : Option Addr) (rs : List Rn) (c : Nat) (w : World) (hl : RdR w A rs) (hf : RnFit rs) (hfn : n.Fit) (hn : rs.length ≤ 1000) (hc : rs.length ≤ c) (hm : c ≤ maxLen) :
    Calls Try.prog 50 #[g.v, nodeV n A rs c] w fun e w' => e = .returned (.bool (goodN g n rs)) ∧ Below w.heap.size w w' := by
  have HL := Lib.hid hl
  have KG := Lib.hid (fun W => ggood_any g W)
  have KF := Lib.hid (fun W => nfree_any n A rs c W)
  have KT := Lib.hid (fun W => nin_any n.t 1 3 W)
  have KI := Lib.hid (fun W => nin_any n.l 1 200 W)
  have KS := Lib.hid (fun W => nsized_any g n A rs c W)
  have KP := Lib.hid (fun (hg : g.good = true) (W : World) (h : RdR W A rs) => nplaced_any g hg n A rs c W h hf hn hc hm)
  have KB := Lib.hid (fun (W : World) (h : RdR W A rs) => nBlocks_any n A rs c W h hn)
  have KN := Lib.hid (fun W => nNeeds_any n A rs c W hfn)
  have HGN := Lib.hid (show goodN g n rs = (g.good && (if n.t = 0 then nfreeB n rs else inB n.t 1 3 && inB n.l 1 200 && sizedB g n && decide (rs.length ≤ 4) && placedB g n rs && (sumR rs == needsN n))) from rfl)
  clear hl hf hfn
  generalize goodN g n rs = gn_ at *
  generalize nfreeB n rs = b0 at *
  generalize inB n.t 1 3 = b1 at *
  generalize inB n.l 1 200 = b2 at *
  generalize sizedB g n = b3 at *
  generalize placedB g n rs = b4 at *
  generalize sumR rs = sm at *
  generalize needsN n = nd at *
  generalize g.good = b5 at *
  obtain ⟨gb, gn, gc, gk⟩ := g
  obtain ⟨t, l, s⟩ := n
  unfold nodeV at *
  simp only [Geo.v] at *
  have HX := Lib.hid ((Below.refl w.heap.size w).alloc (Nat.le_refl _) (.cells #[.int .i64 gb, .int .i64 gn, .int .i64 gc, .int .i64 gk] 33))
  have HW := Lib.hid (HX.out.alloc HX.out.size (.cells #[.int .i64 t, .int .i64 l, .int .i64 s, .slice A rs.length c] 84))
  have HL := Lib.hid (HL.out.below HW.out)
  have HGX := Lib.hid (heap_below (heap_alloc_new w (.cells #[.int .i64 gb, .int .i64 gn, .int .i64 gc, .int .i64 gk] 33)) ((Below.refl _ _).alloc (Nat.le_refl _) (.cells #[.int .i64 t, .int .i64 l, .int .i64 s, .slice A rs.length c] 84)))
  have HBX := Lib.hid (show ((w.alloc (.cells #[.int .i64 gb, .int .i64 gn, .int .i64 gc, .int .i64 gk] 33)).alloc (.cells #[.int .i64 t, .int .i64 l, .int .i64 s, .slice A rs.length c] 84)).heap[w.heap.size + 1]? = some (.cells #[.int .i64 t, .int .i64 l, .int .i64 s, .slice A rs.length c] 84 (0, 0)) by have h := heap_alloc_new (w.alloc (.cells #[.int .i64 gb, .int .i64 gn, .int .i64 gc, .int .i64 gk] 33)) (.cells #[.int .i64 t, .int .i64 l, .int .i64 s, .slice A rs.length c] 84); simpa using h)
  clear HX
  cases b5 with
  | false =>
    have HR := Lib.hid (show false = gn_ by rw [HGN.out]; rfl)
    go_enter Try.func50, Try.ntmps50
    obtain ⟨i0, i1, i2, i3⟩ := cells4 HGX.out
    obtain ⟨c0, c1, c2, c3⟩ := cells4 HBX.out
    go_wp2_with fail
    refine (KG.out _).mono ?_
    rintro e w1 ⟨rfl, hb⟩
    have HW := Lib.hid (HW.out.trans (hb.mono HW.out.size))
    have HGX := Lib.hid (heap_below HGX.out hb)
    have HBX := Lib.hid (heap_below HBX.out hb)
    have HL := Lib.hid (HL.out.below hb)
    clear hb
    clear i0 i1 i2 i3 c0 c1 c2 c3
    obtain ⟨i0, i1, i2, i3⟩ := cells4 HGX.out
    obtain ⟨c0, c1, c2, c3⟩ := cells4 HBX.out
    go_wp2
    go_ret
    exact ⟨ret_bool HR.out, HW.out⟩
  | true =>
    have KPL := Lib.hid (KP.out rfl)
    clear KP
    by_cases ht : t = 0
    · skip
      have HR := Lib.hid (show b0 = gn_ by rw [HGN.out, if_pos ht]; rfl)
      have k0 : (t == 0) = true := by rw [ht]; rfl
      clear ht
      go_enter Try.func50, Try.ntmps50
      obtain ⟨i0, i1, i2, i3⟩ := cells4 HGX.out
      obtain ⟨c0, c1, c2, c3⟩ := cells4 HBX.out
      go_wp2_with fail
      refine (KG.out _).mono ?_
      rintro e w1 ⟨rfl, hb⟩
      have HW := Lib.hid (HW.out.trans (hb.mono HW.out.size))
      have HGX := Lib.hid (heap_below HGX.out hb)
      have HBX := Lib.hid (heap_below HBX.out hb)
      have HL := Lib.hid (HL.out.below hb)
      clear hb
      clear i0 i1 i2 i3 c0 c1 c2 c3
      obtain ⟨i0, i1, i2, i3⟩ := cells4 HGX.out
      obtain ⟨c0, c1, c2, c3⟩ := cells4 HBX.out
      go_wp2_with fail
      refine (KF.out _).mono ?_
      rintro e w2 ⟨rfl, hb⟩
      have HW := Lib.hid (HW.out.trans (hb.mono HW.out.size))
      have HGX := Lib.hid (heap_below HGX.out hb)
      have HBX := Lib.hid (heap_below HBX.out hb)
      have HL := Lib.hid (HL.out.below hb)
      clear hb
      go_wp2
      go_ret
      exact ⟨ret_bool HR.out, HW.out⟩
    have HGN := Lib.hid (show gn_ = (b1 && b2 && b3 && decide (rs.length ≤ 4) && b4 && (sm == nd)) by rw [HGN.out, if_neg ht]; rfl)
    have k0 : (t == 0) = false := by rw [beq_eq_false_iff_ne]; exact ht
    clear ht
    cases b1 with
    | false =>
      have HR := Lib.hid (show false = gn_ by rw [HGN.out]; rfl)
      go_enter Try.func50, Try.ntmps50
      obtain ⟨i0, i1, i2, i3⟩ := cells4 HGX.out
      obtain ⟨c0, c1, c2, c3⟩ := cells4 HBX.out
      go_wp2_with fail
      refine (KG.out _).mono ?_
      rintro e w1 ⟨rfl, hb⟩
      have HW := Lib.hid (HW.out.trans (hb.mono HW.out.size))
      have HGX := Lib.hid (heap_below HGX.out hb)
      have HBX := Lib.hid (heap_below HBX.out hb)
      have HL := Lib.hid (HL.out.below hb)
      clear hb
      clear i0 i1 i2 i3 c0 c1 c2 c3
      obtain ⟨i0, i1, i2, i3⟩ := cells4 HGX.out
      obtain ⟨c0, c1, c2, c3⟩ := cells4 HBX.out
      go_wp2_with fail
      refine (KT.out _).mono ?_
      rintro e w2 ⟨rfl, rfl⟩
      go_wp2
      go_ret
      exact ⟨ret_bool HR.out, HW.out⟩
    | true =>
      cases b2 with
      | false =>
        have HR := Lib.hid (show false = gn_ by rw [HGN.out]; simp)
        go_enter Try.func50, Try.ntmps50
        obtain ⟨i0, i1, i2, i3⟩ := cells4 HGX.out
        obtain ⟨c0, c1, c2, c3⟩ := cells4 HBX.out
        go_wp2_with fail
        refine (KG.out _).mono ?_
        rintro e w1 ⟨rfl, hb⟩
        have HW := Lib.hid (HW.out.trans (hb.mono HW.out.size))
        have HGX := Lib.hid (heap_below HGX.out hb)
        have HBX := Lib.hid (heap_below HBX.out hb)
        have HL := Lib.hid (HL.out.below hb)
        clear hb
        clear i0 i1 i2 i3 c0 c1 c2 c3
        obtain ⟨i0, i1, i2, i3⟩ := cells4 HGX.out
        obtain ⟨c0, c1, c2, c3⟩ := cells4 HBX.out
        go_wp2_with fail
        refine (KT.out _).mono ?_
        rintro e w2 ⟨rfl, rfl⟩
        go_wp2_with fail
        refine (KI.out _).mono ?_
        rintro e w3 ⟨rfl, rfl⟩
        go_wp2
        go_ret
        exact ⟨ret_bool HR.out, HW.out⟩
      | true =>
        cases b3 with
        | false =>
          have HR := Lib.hid (show false = gn_ by rw [HGN.out]; simp)
          go_enter Try.func50, Try.ntmps50
          obtain ⟨i0, i1, i2, i3⟩ := cells4 HGX.out
          obtain ⟨c0, c1, c2, c3⟩ := cells4 HBX.out
          go_wp2_with fail
          refine (KG.out _).mono ?_
          rintro e w1 ⟨rfl, hb⟩
          have HW := Lib.hid (HW.out.trans (hb.mono HW.out.size))
          have HGX := Lib.hid (heap_below HGX.out hb)
          have HBX := Lib.hid (heap_below HBX.out hb)
          have HL := Lib.hid (HL.out.below hb)
          clear hb
          clear i0 i1 i2 i3 c0 c1 c2 c3
          obtain ⟨i0, i1, i2, i3⟩ := cells4 HGX.out
          obtain ⟨c0, c1, c2, c3⟩ := cells4 HBX.out
          go_wp2_with fail
          refine (KT.out _).mono ?_
          rintro e w2 ⟨rfl, rfl⟩
          go_wp2_with fail
          refine (KI.out _).mono ?_
          rintro e w3 ⟨rfl, rfl⟩
          go_wp2_with fail
          refine (KS.out _).mono ?_
          rintro e w4 ⟨rfl, hb⟩
          have HW := Lib.hid (HW.out.trans (hb.mono HW.out.size))
          have HGX := Lib.hid (heap_below HGX.out hb)
          have HBX := Lib.hid (heap_below HBX.out hb)
          have HL := Lib.hid (HL.out.below hb)
          clear hb
          clear i0 i1 i2 i3 c0 c1 c2 c3
          obtain ⟨i0, i1, i2, i3⟩ := cells4 HGX.out
          obtain ⟨c0, c1, c2, c3⟩ := cells4 HBX.out
          go_wp2
          go_ret
          exact ⟨ret_bool HR.out, HW.out⟩
        | true =>
          by_cases h4 : rs.length ≤ 4
          rotate_left
          · skip
            have HR := Lib.hid (show false = gn_ by rw [HGN.out, decide_eq_false h4]; simp)
            have HQ5 := Lib.hid (show decide ((rs.length : Int) ≤ 4) = false from decide_eq_false (by omega))
            clear h4
            go_enter Try.func50, Try.ntmps50
            obtain ⟨i0, i1, i2, i3⟩ := cells4 HGX.out
            obtain ⟨c0, c1, c2, c3⟩ := cells4 HBX.out
            go_wp2_with fail
            refine (KG.out _).mono ?_
            rintro e w1 ⟨rfl, hb⟩
            have HW := Lib.hid (HW.out.trans (hb.mono HW.out.size))
            have HGX := Lib.hid (heap_below HGX.out hb)
            have HBX := Lib.hid (heap_below HBX.out hb)
            have HL := Lib.hid (HL.out.below hb)
            clear hb
            clear i0 i1 i2 i3 c0 c1 c2 c3
            obtain ⟨i0, i1, i2, i3⟩ := cells4 HGX.out
            obtain ⟨c0, c1, c2, c3⟩ := cells4 HBX.out
            go_wp2_with fail
            refine (KT.out _).mono ?_
            rintro e w2 ⟨rfl, rfl⟩
            go_wp2_with fail
            refine (KI.out _).mono ?_
            rintro e w3 ⟨rfl, rfl⟩
            go_wp2_with fail
            refine (KS.out _).mono ?_
            rintro e w4 ⟨rfl, hb⟩
            have HW := Lib.hid (HW.out.trans (hb.mono HW.out.size))
            have HGX := Lib.hid (heap_below HGX.out hb)
            have HBX := Lib.hid (heap_below HBX.out hb)
            have HL := Lib.hid (HL.out.below hb)
            clear hb
            clear i0 i1 i2 i3 c0 c1 c2 c3
            obtain ⟨i0, i1, i2, i3⟩ := cells4 HGX.out
            obtain ⟨c0, c1, c2, c3⟩ := cells4 HBX.out
            clear i0 i1 i2 i3 c0 c1 c2 c3
            go_wp2_with fail
            apply wp_region_inv' 45 (Eqs _ :: Eqs _ :: Eqs _ :: Eqs _ :: Eqs _ :: Eqs _ :: Eqs _ :: Eqs _ :: Eqs _ :: Eqs _ :: Eqs _ :: Eqs _ :: Eqs _ :: Eqs _ :: Eqs _ :: Eqs _ :: Eqs _ :: []) (by kernel_rfl) (by rfl) (stab_cons (stab_eq _) (stab_cons (stab_eq _) (stab_cons (stab_eq _) (stab_cons (stab_eq _) (stab_cons (stab_eq _) (stab_cons (stab_eq _) (stab_cons (stab_eq _) (stab_cons (stab_eq _) (stab_cons (stab_eq _) (stab_cons (stab_eq _) (stab_cons (stab_eq _) (stab_cons (stab_eq _) (stab_cons (stab_eq _) (stab_cons (stab_eq _) (stab_cons (stab_eq _) (stab_cons (stab_eq _) (stab_cons (stab_eq _) stab_nil))))))))))))))))) (by kernel_rfl) (by kernel_rfl)
            case hstep =>
              refine StepsOK.cons ?_ ?_
              · -- 0: Go.Op.fieldAddr 84 (Go.Operand.tmp 3) 3
                intro a w1 hR1 hF hU hsz
                have e3 : a.eval (.tmp 3) = _ := hU 3 (by kernel_rfl)
                rw [if_pos (by rfl)]
                intro K hK
                clear hF hU hsz
                obtain ⟨q1, q2, q3⟩ := eval_rest a
                generalize hρ : a.eval = ρ
                rw [hρ] at q1 q2 q3 e3
                clear hρ
                have u1 := OpUp_value Try.prog K
                have u2 := OpUp_enter Try.prog K
                go_simp
                exact hK _ _ (Stood.refl _) rfl
              refine StepsOK.cons ?_ ?_
              · -- 1: Go.Op.load 82 (Go.Operand.tmp 29)
                intro a w1 hR1 hF hU hsz
                have e29 : a.eval (.tmp 29) = _ := hF 0 _ _ rfl rfl (by kernel_rfl)
                rw [if_pos (by rfl)]
                intro K hK
                clear hF hU hsz
                obtain ⟨c0_, c1_, c2_, c3_⟩ := cells4 (heap_below HBX.out (Stood.cur hR1))
                obtain ⟨q1, q2, q3⟩ := eval_rest a
                generalize hρ : a.eval = ρ
                rw [hρ] at q1 q2 q3 e29
                clear hρ
                have u1 := OpUp_value Try.prog K
                have u2 := OpUp_enter Try.prog K
                go_simp
                exact hK _ _ (Stood.refl _) rfl
              refine StepsOK.cons ?_ ?_
              · -- 2: Go.Op.call { callee := Go.Callee.builtin Go.Builtin.len, args := #[Go.Operand.tm
                intro a w1 hR1 hF hU hsz
                have e30 : a.eval (.tmp 30) = _ := hF 1 _ _ rfl rfl (by kernel_rfl)
                rw [if_pos (by rfl)]
                intro K hK
                clear hF hU hsz
                obtain ⟨q1, q2, q3⟩ := eval_rest a
                generalize hρ : a.eval = ρ
                rw [hρ] at q1 q2 q3 e30
                clear hρ
                have u1 := OpUp_value Try.prog K
                have u2 := OpUp_enter Try.prog K
                go_simp
                exact hK _ _ (Stood.refl _) rfl
              refine StepsOK.cons ?_ ?_
              · -- 3: Go.Op.binOp Go.BinOp.leq 3 (Go.Operand.tmp 31) (Go.Operand.const (Go.Value.int G
                intro a w1 hR1 hF hU hsz
                have e31 : a.eval (.tmp 31) = _ := hF 2 _ _ rfl rfl (by kernel_rfl)
                rw [if_pos (by rfl)]
                intro K hK
                clear hF hU hsz
                obtain ⟨q1, q2, q3⟩ := eval_rest a
                generalize hρ : a.eval = ρ
                rw [hρ] at q1 q2 q3 e31
                clear hρ
                have u1 := OpUp_value Try.prog K
                have u2 := OpUp_enter Try.prog K
                go_simp
                rw [HQ5.out]
                exact hK _ _ (Stood.refl _) rfl
              refine StepsOK.cons ?_ ?_
              · -- 4: Go.Op.move (Go.Operand.tmp 32)
                intro a w1 hR1 hF hU hsz
                have e32 : a.eval (.tmp 32) = _ := hF 3 _ _ rfl rfl (by kernel_rfl)
                rw [if_pos (by rfl)]
                intro K hK
                clear hF hU hsz
                obtain ⟨q1, q2, q3⟩ := eval_rest a
                generalize hρ : a.eval = ρ
                rw [hρ] at q1 q2 q3 e32
                clear hρ
                have u1 := OpUp_value Try.prog K
                have u2 := OpUp_enter Try.prog K
                go_simp
                exact hK _ _ (Stood.refl _) rfl
              refine StepsOK.cons ?_ ?_
              · -- 5: Go.Op.load 33 (Go.Operand.tmp 2)
                intro a w1 hR1 hF hU hsz
                have e2 : a.eval (.tmp 2) = _ := hU 2 (by kernel_rfl)
                have e33 : a.eval (.tmp 33) = _ := hF 4 _ _ rfl rfl (by kernel_rfl)
                rw [wanted_guard (ops := _) rfl rfl rfl e33, if_neg (by decide)]
              refine StepsOK.cons ?_ ?_
              · -- 6: Go.Op.load 84 (Go.Operand.tmp 3)
                intro a w1 hR1 hF hU hsz
                have e3 : a.eval (.tmp 3) = _ := hU 3 (by kernel_rfl)
                have e33 : a.eval (.tmp 33) = _ := hF 4 _ _ rfl rfl (by kernel_rfl)
                rw [wanted_guard (ops := _) rfl rfl rfl e33, if_neg (by decide)]
              refine StepsOK.cons ?_ ?_
              · -- 7: Go.Op.call { callee := Go.Callee.value (Go.Operand.func 90), args := #[Go.Operan
                intro a w1 hR1 hF hU hsz
                have e34 : a.eval (.tmp 34) = _ := hF 5 _ _ rfl rfl (by kernel_rfl)
                have e35 : a.eval (.tmp 35) = _ := hF 6 _ _ rfl rfl (by kernel_rfl)
                have e33 : a.eval (.tmp 33) = _ := hF 4 _ _ rfl rfl (by kernel_rfl)
                rw [wanted_guard (ops := _) rfl rfl rfl e33, if_neg (by decide)]
              refine StepsOK.cons ?_ ?_
              · -- 8: Go.Op.pick (Go.Operand.tmp 33) (Go.Operand.tmp 36) (Go.Operand.const (Go.Value.b
                intro a w1 hR1 hF hU hsz
                have e33 : a.eval (.tmp 33) = _ := hF 4 _ _ rfl rfl (by kernel_rfl)
                have e36 : a.eval (.tmp 36) = _ := hF 7 _ _ rfl rfl (by kernel_rfl)
                rw [if_pos (by rfl)]
                intro K hK
                clear hF hU hsz
                obtain ⟨q1, q2, q3⟩ := eval_rest a
                generalize hρ : a.eval = ρ
                rw [hρ] at q1 q2 q3 e33 e36
                clear hρ
                have u1 := OpUp_value Try.prog K
                have u2 := OpUp_enter Try.prog K
                go_simp
                exact hK _ _ (Stood.refl _) rfl
              refine StepsOK.cons ?_ ?_
              · -- 9: Go.Op.move (Go.Operand.tmp 37)
                intro a w1 hR1 hF hU hsz
                have e37 : a.eval (.tmp 37) = _ := hF 8 _ _ rfl rfl (by kernel_rfl)
                rw [if_pos (by rfl)]
                intro K hK
                clear hF hU hsz
                obtain ⟨q1, q2, q3⟩ := eval_rest a
                generalize hρ : a.eval = ρ
                rw [hρ] at q1 q2 q3 e37
                clear hρ
                have u1 := OpUp_value Try.prog K
                have u2 := OpUp_enter Try.prog K
                go_simp
                exact hK _ _ (Stood.refl _) rfl
              refine StepsOK.cons ?_ ?_
              · -- 10: Go.Op.load 84 (Go.Operand.tmp 3)
                intro a w1 hR1 hF hU hsz
                have e3 : a.eval (.tmp 3) = _ := hU 3 (by kernel_rfl)
                have e38 : a.eval (.tmp 38) = _ := hF 9 _ _ rfl rfl (by kernel_rfl)
                rw [wanted_guard (ops := _) rfl rfl rfl e38, if_neg (by decide)]
              refine StepsOK.cons ?_ ?_
              · -- 11: Go.Op.call { callee := Go.Callee.value (Go.Operand.func 53), args := #[Go.Operan
                intro a w1 hR1 hF hU hsz
                have e39 : a.eval (.tmp 39) = _ := hF 10 _ _ rfl rfl (by kernel_rfl)
                have e38 : a.eval (.tmp 38) = _ := hF 9 _ _ rfl rfl (by kernel_rfl)
                rw [wanted_guard (ops := _) rfl rfl rfl e38, if_neg (by decide)]
              refine StepsOK.cons ?_ ?_
              · -- 12: Go.Op.load 84 (Go.Operand.tmp 3)
                intro a w1 hR1 hF hU hsz
                have e3 : a.eval (.tmp 3) = _ := hU 3 (by kernel_rfl)
                have e38 : a.eval (.tmp 38) = _ := hF 9 _ _ rfl rfl (by kernel_rfl)
                rw [wanted_guard (ops := _) rfl rfl rfl e38, if_neg (by decide)]
              refine StepsOK.cons ?_ ?_
              · -- 13: Go.Op.call { callee := Go.Callee.value (Go.Operand.func 54), args := #[Go.Operan
                intro a w1 hR1 hF hU hsz
                have e41 : a.eval (.tmp 41) = _ := hF 12 _ _ rfl rfl (by kernel_rfl)
                have e38 : a.eval (.tmp 38) = _ := hF 9 _ _ rfl rfl (by kernel_rfl)
                rw [wanted_guard (ops := _) rfl rfl rfl e38, if_neg (by decide)]
              refine StepsOK.cons ?_ ?_
              · -- 14: Go.Op.binOp Go.BinOp.eql 3 (Go.Operand.tmp 40) (Go.Operand.tmp 42) 3
                intro a w1 hR1 hF hU hsz
                have e40 : a.eval (.tmp 40) = _ := hF 11 _ _ rfl rfl (by kernel_rfl)
                have e42 : a.eval (.tmp 42) = _ := hF 13 _ _ rfl rfl (by kernel_rfl)
                have e38 : a.eval (.tmp 38) = _ := hF 9 _ _ rfl rfl (by kernel_rfl)
                rw [wanted_guard (ops := _) rfl rfl rfl e38, if_neg (by decide)]
              refine StepsOK.cons ?_ ?_
              · -- 15: Go.Op.pick (Go.Operand.tmp 38) (Go.Operand.tmp 43) (Go.Operand.const (Go.Value.b
                intro a w1 hR1 hF hU hsz
                have e38 : a.eval (.tmp 38) = _ := hF 9 _ _ rfl rfl (by kernel_rfl)
                have e43 : a.eval (.tmp 43) = _ := hF 14 _ _ rfl rfl (by kernel_rfl)
                rw [if_pos (by rfl)]
                intro K hK
                clear hF hU hsz
                obtain ⟨q1, q2, q3⟩ := eval_rest a
                generalize hρ : a.eval = ρ
                rw [hρ] at q1 q2 q3 e38 e43
                clear hρ
                have u1 := OpUp_value Try.prog K
                have u2 := OpUp_enter Try.prog K
                go_simp
                exact hK _ _ (Stood.refl _) rfl
              refine StepsOK.cons ?_ ?_
              · -- 16: Go.Op.assign (Go.Operand.tmp 44)
                intro a w1 hR1 hF hU hsz
                have e44 : a.eval (.tmp 44) = _ := hF 15 _ _ rfl rfl (by kernel_rfl)
                rw [if_pos (by rfl)]
                intro K hK
                clear hF hU hsz
                obtain ⟨q1, q2, q3⟩ := eval_rest a
                generalize hρ : a.eval = ρ
                rw [hρ] at q1 q2 q3 e44
                clear hρ
                have u1 := OpUp_value Try.prog K
                have u2 := OpUp_enter Try.prog K
                go_simp
                exact hK _ _ (Stood.refl _) rfl
              exact StepsOK.nil
            case hend =>
              intro vs0 w1 hR1 hH0
              obtain ⟨vs1, rfl, hH1⟩ := hH0.eq_
              obtain ⟨vs2, rfl, hH2⟩ := hH1.eq_
              obtain ⟨vs3, rfl, hH3⟩ := hH2.eq_
              obtain ⟨vs4, rfl, hH4⟩ := hH3.eq_
              obtain ⟨vs5, rfl, hH5⟩ := hH4.eq_
              obtain ⟨vs6, rfl, hH6⟩ := hH5.eq_
              obtain ⟨vs7, rfl, hH7⟩ := hH6.eq_
              obtain ⟨vs8, rfl, hH8⟩ := hH7.eq_
              obtain ⟨vs9, rfl, hH9⟩ := hH8.eq_
              obtain ⟨vs10, rfl, hH10⟩ := hH9.eq_
              obtain ⟨vs11, rfl, hH11⟩ := hH10.eq_
              obtain ⟨vs12, rfl, hH12⟩ := hH11.eq_
              obtain ⟨vs13, rfl, hH13⟩ := hH12.eq_
              obtain ⟨vs14, rfl, hH14⟩ := hH13.eq_
              obtain ⟨vs15, rfl, hH15⟩ := hH14.eq_
              obtain ⟨vs16, rfl, hH16⟩ := hH15.eq_
              obtain ⟨vs17, rfl, hH17⟩ := hH16.eq_
              obtain rfl := hH17.nil
              clear hH0 hH1 hH2 hH3 hH4 hH5 hH6 hH7 hH8 hH9 hH10 hH11 hH12 hH13 hH14 hH15 hH16 hH17
              simp only [putAll, Act.put, List.setIfInBounds_toArray, List.set_cons_zero, List.set_cons_succ]
              have HW := Lib.hid (HW.out.trans ((Stood.cur hR1).mono HW.out.size))
              go_wp2
              go_ret
              exact ⟨ret_bool HR.out, HW.out⟩
          have HQ5 := Lib.hid (show decide ((rs.length : Int) ≤ 4) = true from decide_eq_true (by omega))
          cases b4 with
          | false =>
            have HR := Lib.hid (show false = gn_ by rw [HGN.out]; simp)
            clear h4
            go_enter Try.func50, Try.ntmps50
            obtain ⟨i0, i1, i2, i3⟩ := cells4 HGX.out
            obtain ⟨c0, c1, c2, c3⟩ := cells4 HBX.out
            go_wp2_with fail
            refine (KG.out _).mono ?_
            rintro e w1 ⟨rfl, hb⟩
            have HW := Lib.hid (HW.out.trans (hb.mono HW.out.size))
            have HGX := Lib.hid (heap_below HGX.out hb)
            have HBX := Lib.hid (heap_below HBX.out hb)
            have HL := Lib.hid (HL.out.below hb)
            clear hb
            clear i0 i1 i2 i3 c0 c1 c2 c3
            obtain ⟨i0, i1, i2, i3⟩ := cells4 HGX.out
            obtain ⟨c0, c1, c2, c3⟩ := cells4 HBX.out
            go_wp2_with fail
            refine (KT.out _).mono ?_
            rintro e w2 ⟨rfl, rfl⟩
            go_wp2_with fail
            refine (KI.out _).mono ?_
            rintro e w3 ⟨rfl, rfl⟩
            go_wp2_with fail
            refine (KS.out _).mono ?_
            rintro e w4 ⟨rfl, hb⟩
            have HW := Lib.hid (HW.out.trans (hb.mono HW.out.size))
            have HGX := Lib.hid (heap_below HGX.out hb)
            have HBX := Lib.hid (heap_below HBX.out hb)
            have HL := Lib.hid (HL.out.below hb)
            clear hb
            clear i0 i1 i2 i3 c0 c1 c2 c3
            obtain ⟨i0, i1, i2, i3⟩ := cells4 HGX.out
            obtain ⟨c0, c1, c2, c3⟩ := cells4 HBX.out
            clear i0 i1 i2 i3 c0 c1 c2 c3
            go_wp2_with fail
            apply wp_region_inv' 45 (Eqs _ :: Eqs _ :: Eqs _ :: Eqs _ :: Eqs _ :: Eqs _ :: Eqs _ :: Eqs _ :: Eqs _ :: Eqs _ :: Eqs _ :: Eqs _ :: Eqs _ :: Eqs _ :: Eqs _ :: Eqs _ :: Eqs _ :: []) (by kernel_rfl) (by rfl) (stab_cons (stab_eq _) (stab_cons (stab_eq _) (stab_cons (stab_eq _) (stab_cons (stab_eq _) (stab_cons (stab_eq _) (stab_cons (stab_eq _) (stab_cons (stab_eq _) (stab_cons (stab_eq _) (stab_cons (stab_eq _) (stab_cons (stab_eq _) (stab_cons (stab_eq _) (stab_cons (stab_eq _) (stab_cons (stab_eq _) (stab_cons (stab_eq _) (stab_cons (stab_eq _) (stab_cons (stab_eq _) (stab_cons (stab_eq _) stab_nil))))))))))))))))) (by kernel_rfl) (by kernel_rfl)
            case hstep =>
              refine StepsOK.cons ?_ ?_
              · -- 0: Go.Op.fieldAddr 84 (Go.Operand.tmp 3) 3
                intro a w1 hR1 hF hU hsz
                have e3 : a.eval (.tmp 3) = _ := hU 3 (by kernel_rfl)
                rw [if_pos (by rfl)]
                intro K hK
                clear hF hU hsz
                obtain ⟨q1, q2, q3⟩ := eval_rest a
                generalize hρ : a.eval = ρ
                rw [hρ] at q1 q2 q3 e3
                clear hρ
                have u1 := OpUp_value Try.prog K
                have u2 := OpUp_enter Try.prog K
                go_simp
                exact hK _ _ (Stood.refl _) rfl
              refine StepsOK.cons ?_ ?_
              · -- 1: Go.Op.load 82 (Go.Operand.tmp 29)
                intro a w1 hR1 hF hU hsz
                have e29 : a.eval (.tmp 29) = _ := hF 0 _ _ rfl rfl (by kernel_rfl)
                rw [if_pos (by rfl)]
                intro K hK
                clear hF hU hsz
                obtain ⟨c0_, c1_, c2_, c3_⟩ := cells4 (heap_below HBX.out (Stood.cur hR1))
                obtain ⟨q1, q2, q3⟩ := eval_rest a
                generalize hρ : a.eval = ρ
                rw [hρ] at q1 q2 q3 e29
                clear hρ
                have u1 := OpUp_value Try.prog K
                have u2 := OpUp_enter Try.prog K
                go_simp
                exact hK _ _ (Stood.refl _) rfl
              refine StepsOK.cons ?_ ?_
              · -- 2: Go.Op.call { callee := Go.Callee.builtin Go.Builtin.len, args := #[Go.Operand.tm
                intro a w1 hR1 hF hU hsz
                have e30 : a.eval (.tmp 30) = _ := hF 1 _ _ rfl rfl (by kernel_rfl)
                rw [if_pos (by rfl)]
                intro K hK
                clear hF hU hsz
                obtain ⟨q1, q2, q3⟩ := eval_rest a
                generalize hρ : a.eval = ρ
                rw [hρ] at q1 q2 q3 e30
                clear hρ
                have u1 := OpUp_value Try.prog K
                have u2 := OpUp_enter Try.prog K
                go_simp
                exact hK _ _ (Stood.refl _) rfl
              refine StepsOK.cons ?_ ?_
              · -- 3: Go.Op.binOp Go.BinOp.leq 3 (Go.Operand.tmp 31) (Go.Operand.const (Go.Value.int G
                intro a w1 hR1 hF hU hsz
                have e31 : a.eval (.tmp 31) = _ := hF 2 _ _ rfl rfl (by kernel_rfl)
                rw [if_pos (by rfl)]
                intro K hK
                clear hF hU hsz
                obtain ⟨q1, q2, q3⟩ := eval_rest a
                generalize hρ : a.eval = ρ
                rw [hρ] at q1 q2 q3 e31
                clear hρ
                have u1 := OpUp_value Try.prog K
                have u2 := OpUp_enter Try.prog K
                go_simp
                rw [HQ5.out]
                exact hK _ _ (Stood.refl _) rfl
              refine StepsOK.cons ?_ ?_
              · -- 4: Go.Op.move (Go.Operand.tmp 32)
                intro a w1 hR1 hF hU hsz
                have e32 : a.eval (.tmp 32) = _ := hF 3 _ _ rfl rfl (by kernel_rfl)
                rw [if_pos (by rfl)]
                intro K hK
                clear hF hU hsz
                obtain ⟨q1, q2, q3⟩ := eval_rest a
                generalize hρ : a.eval = ρ
                rw [hρ] at q1 q2 q3 e32
                clear hρ
                have u1 := OpUp_value Try.prog K
                have u2 := OpUp_enter Try.prog K
                go_simp
                exact hK _ _ (Stood.refl _) rfl
              refine StepsOK.cons ?_ ?_
              · -- 5: Go.Op.load 33 (Go.Operand.tmp 2)
                intro a w1 hR1 hF hU hsz
                have e2 : a.eval (.tmp 2) = _ := hU 2 (by kernel_rfl)
                have e33 : a.eval (.tmp 33) = _ := hF 4 _ _ rfl rfl (by kernel_rfl)
                rw [wanted_guard (ops := _) rfl rfl rfl e33, if_pos (by rfl)]
                intro K hK
                clear hF hU hsz
                obtain ⟨c0_, c1_, c2_, c3_⟩ := cells4 (heap_below HGX.out (Stood.cur hR1))
                obtain ⟨q1, q2, q3⟩ := eval_rest a
                generalize hρ : a.eval = ρ
                rw [hρ] at q1 q2 q3 e2 e33
                clear hρ
                have u1 := OpUp_value Try.prog K
                have u2 := OpUp_enter Try.prog K
                go_simp
                exact hK _ _ (Stood.refl _) rfl
              refine StepsOK.cons ?_ ?_
              · -- 6: Go.Op.load 84 (Go.Operand.tmp 3)
                intro a w1 hR1 hF hU hsz
                have e3 : a.eval (.tmp 3) = _ := hU 3 (by kernel_rfl)
                have e33 : a.eval (.tmp 33) = _ := hF 4 _ _ rfl rfl (by kernel_rfl)
                rw [wanted_guard (ops := _) rfl rfl rfl e33, if_pos (by rfl)]
                intro K hK
                clear hF hU hsz
                obtain ⟨c0_, c1_, c2_, c3_⟩ := cells4 (heap_below HBX.out (Stood.cur hR1))
                obtain ⟨q1, q2, q3⟩ := eval_rest a
                generalize hρ : a.eval = ρ
                rw [hρ] at q1 q2 q3 e3 e33
                clear hρ
                have u1 := OpUp_value Try.prog K
                have u2 := OpUp_enter Try.prog K
                go_simp
                exact hK _ _ (Stood.refl _) rfl
              refine StepsOK.cons ?_ ?_
              · -- 7: Go.Op.call { callee := Go.Callee.value (Go.Operand.func 90), args := #[Go.Operan
                intro a w1 hR1 hF hU hsz
                have e34 : a.eval (.tmp 34) = _ := hF 5 _ _ rfl rfl (by kernel_rfl)
                have e35 : a.eval (.tmp 35) = _ := hF 6 _ _ rfl rfl (by kernel_rfl)
                have e33 : a.eval (.tmp 33) = _ := hF 4 _ _ rfl rfl (by kernel_rfl)
                rw [wanted_guard (ops := _) rfl rfl rfl e33, if_pos (by rfl)]
                intro K hK
                clear hF hU hsz
                obtain ⟨q1, q2, q3⟩ := eval_rest a
                generalize hρ : a.eval = ρ
                rw [hρ] at q1 q2 q3 e33 e34 e35
                clear hρ
                have u1 := OpUp_value Try.prog K
                have u2 := OpUp_enter Try.prog K
                go_simp
                refine (KPL.out w1 (HL.out.below (Stood.cur hR1))).mono ?_
                rintro e w' ⟨rfl, hb⟩
                exact ⟨_, rfl, hK _ _ hb rfl⟩
              refine StepsOK.cons ?_ ?_
              · -- 8: Go.Op.pick (Go.Operand.tmp 33) (Go.Operand.tmp 36) (Go.Operand.const (Go.Value.b
                intro a w1 hR1 hF hU hsz
                have e33 : a.eval (.tmp 33) = _ := hF 4 _ _ rfl rfl (by kernel_rfl)
                have e36 : a.eval (.tmp 36) = _ := hF 7 _ _ rfl rfl (by kernel_rfl)
                rw [if_pos (by rfl)]
                intro K hK
                clear hF hU hsz
                obtain ⟨q1, q2, q3⟩ := eval_rest a
                generalize hρ : a.eval = ρ
                rw [hρ] at q1 q2 q3 e33 e36
                clear hρ
                have u1 := OpUp_value Try.prog K
                have u2 := OpUp_enter Try.prog K
                go_simp
                exact hK _ _ (Stood.refl _) rfl
              refine StepsOK.cons ?_ ?_
              · -- 9: Go.Op.move (Go.Operand.tmp 37)
                intro a w1 hR1 hF hU hsz
                have e37 : a.eval (.tmp 37) = _ := hF 8 _ _ rfl rfl (by kernel_rfl)
                rw [if_pos (by rfl)]
                intro K hK
                clear hF hU hsz
                obtain ⟨q1, q2, q3⟩ := eval_rest a
                generalize hρ : a.eval = ρ
                rw [hρ] at q1 q2 q3 e37
                clear hρ
                have u1 := OpUp_value Try.prog K
                have u2 := OpUp_enter Try.prog K
                go_simp
                exact hK _ _ (Stood.refl _) rfl
              refine StepsOK.cons ?_ ?_
              · -- 10: Go.Op.load 84 (Go.Operand.tmp 3)
                intro a w1 hR1 hF hU hsz
                have e3 : a.eval (.tmp 3) = _ := hU 3 (by kernel_rfl)
                have e38 : a.eval (.tmp 38) = _ := hF 9 _ _ rfl rfl (by kernel_rfl)
                rw [wanted_guard (ops := _) rfl rfl rfl e38, if_neg (by decide)]
              refine StepsOK.cons ?_ ?_
              · -- 11: Go.Op.call { callee := Go.Callee.value (Go.Operand.func 53), args := #[Go.Operan
                intro a w1 hR1 hF hU hsz
                have e39 : a.eval (.tmp 39) = _ := hF 10 _ _ rfl rfl (by kernel_rfl)
                have e38 : a.eval (.tmp 38) = _ := hF 9 _ _ rfl rfl (by kernel_rfl)
                rw [wanted_guard (ops := _) rfl rfl rfl e38, if_neg (by decide)]
              refine StepsOK.cons ?_ ?_
              · -- 12: Go.Op.load 84 (Go.Operand.tmp 3)
                intro a w1 hR1 hF hU hsz
                have e3 : a.eval (.tmp 3) = _ := hU 3 (by kernel_rfl)
                have e38 : a.eval (.tmp 38) = _ := hF 9 _ _ rfl rfl (by kernel_rfl)
                rw [wanted_guard (ops := _) rfl rfl rfl e38, if_neg (by decide)]
              refine StepsOK.cons ?_ ?_
              · -- 13: Go.Op.call { callee := Go.Callee.value (Go.Operand.func 54), args := #[Go.Operan
                intro a w1 hR1 hF hU hsz
                have e41 : a.eval (.tmp 41) = _ := hF 12 _ _ rfl rfl (by kernel_rfl)
                have e38 : a.eval (.tmp 38) = _ := hF 9 _ _ rfl rfl (by kernel_rfl)
                rw [wanted_guard (ops := _) rfl rfl rfl e38, if_neg (by decide)]
              refine StepsOK.cons ?_ ?_
              · -- 14: Go.Op.binOp Go.BinOp.eql 3 (Go.Operand.tmp 40) (Go.Operand.tmp 42) 3
                intro a w1 hR1 hF hU hsz
                have e40 : a.eval (.tmp 40) = _ := hF 11 _ _ rfl rfl (by kernel_rfl)
                have e42 : a.eval (.tmp 42) = _ := hF 13 _ _ rfl rfl (by kernel_rfl)
                have e38 : a.eval (.tmp 38) = _ := hF 9 _ _ rfl rfl (by kernel_rfl)
                rw [wanted_guard (ops := _) rfl rfl rfl e38, if_neg (by decide)]
              refine StepsOK.cons ?_ ?_
              · -- 15: Go.Op.pick (Go.Operand.tmp 38) (Go.Operand.tmp 43) (Go.Operand.const (Go.Value.b
                intro a w1 hR1 hF hU hsz
                have e38 : a.eval (.tmp 38) = _ := hF 9 _ _ rfl rfl (by kernel_rfl)
                have e43 : a.eval (.tmp 43) = _ := hF 14 _ _ rfl rfl (by kernel_rfl)
                rw [if_pos (by rfl)]
                intro K hK
                clear hF hU hsz
                obtain ⟨q1, q2, q3⟩ := eval_rest a
                generalize hρ : a.eval = ρ
                rw [hρ] at q1 q2 q3 e38 e43
                clear hρ
                have u1 := OpUp_value Try.prog K
                have u2 := OpUp_enter Try.prog K
                go_simp
                exact hK _ _ (Stood.refl _) rfl
              refine StepsOK.cons ?_ ?_
              · -- 16: Go.Op.assign (Go.Operand.tmp 44)
                intro a w1 hR1 hF hU hsz
                have e44 : a.eval (.tmp 44) = _ := hF 15 _ _ rfl rfl (by kernel_rfl)
                rw [if_pos (by rfl)]
                intro K hK
                clear hF hU hsz
                obtain ⟨q1, q2, q3⟩ := eval_rest a
                generalize hρ : a.eval = ρ
                rw [hρ] at q1 q2 q3 e44
                clear hρ
                have u1 := OpUp_value Try.prog K
                have u2 := OpUp_enter Try.prog K
                go_simp
                exact hK _ _ (Stood.refl _) rfl
              exact StepsOK.nil
            case hend =>
              intro vs0 w1 hR1 hH0
              obtain ⟨vs1, rfl, hH1⟩ := hH0.eq_
              obtain ⟨vs2, rfl, hH2⟩ := hH1.eq_
              obtain ⟨vs3, rfl, hH3⟩ := hH2.eq_
              obtain ⟨vs4, rfl, hH4⟩ := hH3.eq_
              obtain ⟨vs5, rfl, hH5⟩ := hH4.eq_
              obtain ⟨vs6, rfl, hH6⟩ := hH5.eq_
              obtain ⟨vs7, rfl, hH7⟩ := hH6.eq_
              obtain ⟨vs8, rfl, hH8⟩ := hH7.eq_
              obtain ⟨vs9, rfl, hH9⟩ := hH8.eq_
              obtain ⟨vs10, rfl, hH10⟩ := hH9.eq_
              obtain ⟨vs11, rfl, hH11⟩ := hH10.eq_
              obtain ⟨vs12, rfl, hH12⟩ := hH11.eq_
              obtain ⟨vs13, rfl, hH13⟩ := hH12.eq_
              obtain ⟨vs14, rfl, hH14⟩ := hH13.eq_
              obtain ⟨vs15, rfl, hH15⟩ := hH14.eq_
              obtain ⟨vs16, rfl, hH16⟩ := hH15.eq_
              obtain ⟨vs17, rfl, hH17⟩ := hH16.eq_
              obtain rfl := hH17.nil
              clear hH0 hH1 hH2 hH3 hH4 hH5 hH6 hH7 hH8 hH9 hH10 hH11 hH12 hH13 hH14 hH15 hH16 hH17
              simp only [putAll, Act.put, List.setIfInBounds_toArray, List.set_cons_zero, List.set_cons_succ]
              have HW := Lib.hid (HW.out.trans ((Stood.cur hR1).mono HW.out.size))
              go_wp2
              go_ret
              exact ⟨ret_bool HR.out, HW.out⟩
          | true =>
            have HR := Lib.hid (show (sm == nd) = gn_ by rw [HGN.out, decide_eq_true h4]; rfl)
            clear h4
            go_enter Try.func50, Try.ntmps50
            obtain ⟨i0, i1, i2, i3⟩ := cells4 HGX.out
            obtain ⟨c0, c1, c2, c3⟩ := cells4 HBX.out
            go_wp2_with fail
            refine (KG.out _).mono ?_
            rintro e w1 ⟨rfl, hb⟩
            have HW := Lib.hid (HW.out.trans (hb.mono HW.out.size))
            have HGX := Lib.hid (heap_below HGX.out hb)
            have HBX := Lib.hid (heap_below HBX.out hb)
            have HL := Lib.hid (HL.out.below hb)
            clear hb
            clear i0 i1 i2 i3 c0 c1 c2 c3
            obtain ⟨i0, i1, i2, i3⟩ := cells4 HGX.out
            obtain ⟨c0, c1, c2, c3⟩ := cells4 HBX.out
            go_wp2_with fail
            refine (KT.out _).mono ?_
            rintro e w2 ⟨rfl, rfl⟩
            go_wp2_with fail
            refine (KI.out _).mono ?_
            rintro e w3 ⟨rfl, rfl⟩
            go_wp2_with fail
            refine (KS.out _).mono ?_
            rintro e w4 ⟨rfl, hb⟩
            have HW := Lib.hid (HW.out.trans (hb.mono HW.out.size))
            have HGX := Lib.hid (heap_below HGX.out hb)
            have HBX := Lib.hid (heap_below HBX.out hb)
            have HL := Lib.hid (HL.out.below hb)
            clear hb
            clear i0 i1 i2 i3 c0 c1 c2 c3
            obtain ⟨i0, i1, i2, i3⟩ := cells4 HGX.out
            obtain ⟨c0, c1, c2, c3⟩ := cells4 HBX.out
            clear i0 i1 i2 i3 c0 c1 c2 c3
            go_wp2_with fail
            apply wp_region_inv' 45 (Eqs _ :: Eqs _ :: Eqs _ :: Eqs _ :: Eqs _ :: Eqs _ :: Eqs _ :: Eqs _ :: Eqs _ :: Eqs _ :: Eqs _ :: Eqs _ :: Eqs _ :: Eqs _ :: Eqs _ :: Eqs _ :: Eqs _ :: []) (by kernel_rfl) (by rfl) (stab_cons (stab_eq _) (stab_cons (stab_eq _) (stab_cons (stab_eq _) (stab_cons (stab_eq _) (stab_cons (stab_eq _) (stab_cons (stab_eq _) (stab_cons (stab_eq _) (stab_cons (stab_eq _) (stab_cons (stab_eq _) (stab_cons (stab_eq _) (stab_cons (stab_eq _) (stab_cons (stab_eq _) (stab_cons (stab_eq _) (stab_cons (stab_eq _) (stab_cons (stab_eq _) (stab_cons (stab_eq _) (stab_cons (stab_eq _) stab_nil))))))))))))))))) (by kernel_rfl) (by kernel_rfl)
            case hstep =>
              refine StepsOK.cons ?_ ?_
              · -- 0: Go.Op.fieldAddr 84 (Go.Operand.tmp 3) 3
                intro a w1 hR1 hF hU hsz
                have e3 : a.eval (.tmp 3) = _ := hU 3 (by kernel_rfl)
                rw [if_pos (by rfl)]
                intro K hK
                clear hF hU hsz
                obtain ⟨q1, q2, q3⟩ := eval_rest a
                generalize hρ : a.eval = ρ
                rw [hρ] at q1 q2 q3 e3
                clear hρ
                have u1 := OpUp_value Try.prog K
                have u2 := OpUp_enter Try.prog K
                go_simp
                exact hK _ _ (Stood.refl _) rfl
              refine StepsOK.cons ?_ ?_
              · -- 1: Go.Op.load 82 (Go.Operand.tmp 29)
                intro a w1 hR1 hF hU hsz
                have e29 : a.eval (.tmp 29) = _ := hF 0 _ _ rfl rfl (by kernel_rfl)
                rw [if_pos (by rfl)]
                intro K hK
                clear hF hU hsz
                obtain ⟨c0_, c1_, c2_, c3_⟩ := cells4 (heap_below HBX.out (Stood.cur hR1))
                obtain ⟨q1, q2, q3⟩ := eval_rest a
                generalize hρ : a.eval = ρ
                rw [hρ] at q1 q2 q3 e29
                clear hρ
                have u1 := OpUp_value Try.prog K
                have u2 := OpUp_enter Try.prog K
                go_simp
                exact hK _ _ (Stood.refl _) rfl
              refine StepsOK.cons ?_ ?_
              · -- 2: Go.Op.call { callee := Go.Callee.builtin Go.Builtin.len, args := #[Go.Operand.tm
                intro a w1 hR1 hF hU hsz
                have e30 : a.eval (.tmp 30) = _ := hF 1 _ _ rfl rfl (by kernel_rfl)
                rw [if_pos (by rfl)]
                intro K hK
                clear hF hU hsz
                obtain ⟨q1, q2, q3⟩ := eval_rest a
                generalize hρ : a.eval = ρ
                rw [hρ] at q1 q2 q3 e30
                clear hρ
                have u1 := OpUp_value Try.prog K
                have u2 := OpUp_enter Try.prog K
                go_simp
                exact hK _ _ (Stood.refl _) rfl
              refine StepsOK.cons ?_ ?_
              · -- 3: Go.Op.binOp Go.BinOp.leq 3 (Go.Operand.tmp 31) (Go.Operand.const (Go.Value.int G
                intro a w1 hR1 hF hU hsz
                have e31 : a.eval (.tmp 31) = _ := hF 2 _ _ rfl rfl (by kernel_rfl)
                rw [if_pos (by rfl)]
                intro K hK
                clear hF hU hsz
                obtain ⟨q1, q2, q3⟩ := eval_rest a
                generalize hρ : a.eval = ρ
                rw [hρ] at q1 q2 q3 e31
                clear hρ
                have u1 := OpUp_value Try.prog K
                have u2 := OpUp_enter Try.prog K
                go_simp
                rw [HQ5.out]
                exact hK _ _ (Stood.refl _) rfl
              refine StepsOK.cons ?_ ?_
              · -- 4: Go.Op.move (Go.Operand.tmp 32)
                intro a w1 hR1 hF hU hsz
                have e32 : a.eval (.tmp 32) = _ := hF 3 _ _ rfl rfl (by kernel_rfl)
                rw [if_pos (by rfl)]
                intro K hK
                clear hF hU hsz
                obtain ⟨q1, q2, q3⟩ := eval_rest a
                generalize hρ : a.eval = ρ
                rw [hρ] at q1 q2 q3 e32
                clear hρ
                have u1 := OpUp_value Try.prog K
                have u2 := OpUp_enter Try.prog K
                go_simp
                exact hK _ _ (Stood.refl _) rfl
              refine StepsOK.cons ?_ ?_
              · -- 5: Go.Op.load 33 (Go.Operand.tmp 2)
                intro a w1 hR1 hF hU hsz
                have e2 : a.eval (.tmp 2) = _ := hU 2 (by kernel_rfl)
                have e33 : a.eval (.tmp 33) = _ := hF 4 _ _ rfl rfl (by kernel_rfl)
                rw [wanted_guard (ops := _) rfl rfl rfl e33, if_pos (by rfl)]
                intro K hK
                clear hF hU hsz
                obtain ⟨c0_, c1_, c2_, c3_⟩ := cells4 (heap_below HGX.out (Stood.cur hR1))
                obtain ⟨q1, q2, q3⟩ := eval_rest a
                generalize hρ : a.eval = ρ
                rw [hρ] at q1 q2 q3 e2 e33
                clear hρ
                have u1 := OpUp_value Try.prog K
                have u2 := OpUp_enter Try.prog K
                go_simp
                exact hK _ _ (Stood.refl _) rfl
              refine StepsOK.cons ?_ ?_
              · -- 6: Go.Op.load 84 (Go.Operand.tmp 3)
                intro a w1 hR1 hF hU hsz
                have e3 : a.eval (.tmp 3) = _ := hU 3 (by kernel_rfl)
                have e33 : a.eval (.tmp 33) = _ := hF 4 _ _ rfl rfl (by kernel_rfl)
                rw [wanted_guard (ops := _) rfl rfl rfl e33, if_pos (by rfl)]
                intro K hK
                clear hF hU hsz
                obtain ⟨c0_, c1_, c2_, c3_⟩ := cells4 (heap_below HBX.out (Stood.cur hR1))
                obtain ⟨q1, q2, q3⟩ := eval_rest a
                generalize hρ : a.eval = ρ
                rw [hρ] at q1 q2 q3 e3 e33
                clear hρ
                have u1 := OpUp_value Try.prog K
                have u2 := OpUp_enter Try.prog K
                go_simp
                exact hK _ _ (Stood.refl _) rfl
              refine StepsOK.cons ?_ ?_
              · -- 7: Go.Op.call { callee := Go.Callee.value (Go.Operand.func 90), args := #[Go.Operan
                intro a w1 hR1 hF hU hsz
                have e34 : a.eval (.tmp 34) = _ := hF 5 _ _ rfl rfl (by kernel_rfl)
                have e35 : a.eval (.tmp 35) = _ := hF 6 _ _ rfl rfl (by kernel_rfl)
                have e33 : a.eval (.tmp 33) = _ := hF 4 _ _ rfl rfl (by kernel_rfl)
                rw [wanted_guard (ops := _) rfl rfl rfl e33, if_pos (by rfl)]
                intro K hK
                clear hF hU hsz
                obtain ⟨q1, q2, q3⟩ := eval_rest a
                generalize hρ : a.eval = ρ
                rw [hρ] at q1 q2 q3 e33 e34 e35
                clear hρ
                have u1 := OpUp_value Try.prog K
                have u2 := OpUp_enter Try.prog K
                go_simp
                refine (KPL.out w1 (HL.out.below (Stood.cur hR1))).mono ?_
                rintro e w' ⟨rfl, hb⟩
                exact ⟨_, rfl, hK _ _ hb rfl⟩
              refine StepsOK.cons ?_ ?_
              · -- 8: Go.Op.pick (Go.Operand.tmp 33) (Go.Operand.tmp 36) (Go.Operand.const (Go.Value.b
                intro a w1 hR1 hF hU hsz
                have e33 : a.eval (.tmp 33) = _ := hF 4 _ _ rfl rfl (by kernel_rfl)
                have e36 : a.eval (.tmp 36) = _ := hF 7 _ _ rfl rfl (by kernel_rfl)
                rw [if_pos (by rfl)]
                intro K hK
                clear hF hU hsz
                obtain ⟨q1, q2, q3⟩ := eval_rest a
                generalize hρ : a.eval = ρ
                rw [hρ] at q1 q2 q3 e33 e36
                clear hρ
                have u1 := OpUp_value Try.prog K
                have u2 := OpUp_enter Try.prog K
                go_simp
                exact hK _ _ (Stood.refl _) rfl
              refine StepsOK.cons ?_ ?_
              · -- 9: Go.Op.move (Go.Operand.tmp 37)
                intro a w1 hR1 hF hU hsz
                have e37 : a.eval (.tmp 37) = _ := hF 8 _ _ rfl rfl (by kernel_rfl)
                rw [if_pos (by rfl)]
                intro K hK
                clear hF hU hsz
                obtain ⟨q1, q2, q3⟩ := eval_rest a
                generalize hρ : a.eval = ρ
                rw [hρ] at q1 q2 q3 e37
                clear hρ
                have u1 := OpUp_value Try.prog K
                have u2 := OpUp_enter Try.prog K
                go_simp
                exact hK _ _ (Stood.refl _) rfl
              refine StepsOK.cons ?_ ?_
              · -- 10: Go.Op.load 84 (Go.Operand.tmp 3)
                intro a w1 hR1 hF hU hsz
                have e3 : a.eval (.tmp 3) = _ := hU 3 (by kernel_rfl)
                have e38 : a.eval (.tmp 38) = _ := hF 9 _ _ rfl rfl (by kernel_rfl)
                rw [wanted_guard (ops := _) rfl rfl rfl e38, if_pos (by rfl)]
                intro K hK
                clear hF hU hsz
                obtain ⟨c0_, c1_, c2_, c3_⟩ := cells4 (heap_below HBX.out (Stood.cur hR1))
                obtain ⟨q1, q2, q3⟩ := eval_rest a
                generalize hρ : a.eval = ρ
                rw [hρ] at q1 q2 q3 e3 e38
                clear hρ
                have u1 := OpUp_value Try.prog K
                have u2 := OpUp_enter Try.prog K
                go_simp
                exact hK _ _ (Stood.refl _) rfl
              refine StepsOK.cons ?_ ?_
              · -- 11: Go.Op.call { callee := Go.Callee.value (Go.Operand.func 53), args := #[Go.Operan
                intro a w1 hR1 hF hU hsz
                have e39 : a.eval (.tmp 39) = _ := hF 10 _ _ rfl rfl (by kernel_rfl)
                have e38 : a.eval (.tmp 38) = _ := hF 9 _ _ rfl rfl (by kernel_rfl)
                rw [wanted_guard (ops := _) rfl rfl rfl e38, if_pos (by rfl)]
                intro K hK
                clear hF hU hsz
                obtain ⟨q1, q2, q3⟩ := eval_rest a
                generalize hρ : a.eval = ρ
                rw [hρ] at q1 q2 q3 e38 e39
                clear hρ
                have u1 := OpUp_value Try.prog K
                have u2 := OpUp_enter Try.prog K
                go_simp
                refine (KB.out w1 (HL.out.below (Stood.cur hR1))).mono ?_
                rintro e w' ⟨rfl, hb⟩
                exact ⟨_, rfl, hK _ _ hb rfl⟩
              refine StepsOK.cons ?_ ?_
              · -- 12: Go.Op.load 84 (Go.Operand.tmp 3)
                intro a w1 hR1 hF hU hsz
                have e3 : a.eval (.tmp 3) = _ := hU 3 (by kernel_rfl)
                have e38 : a.eval (.tmp 38) = _ := hF 9 _ _ rfl rfl (by kernel_rfl)
                rw [wanted_guard (ops := _) rfl rfl rfl e38, if_pos (by rfl)]
                intro K hK
                clear hF hU hsz
                obtain ⟨c0_, c1_, c2_, c3_⟩ := cells4 (heap_below HBX.out (Stood.cur hR1))
                obtain ⟨q1, q2, q3⟩ := eval_rest a
                generalize hρ : a.eval = ρ
                rw [hρ] at q1 q2 q3 e3 e38
                clear hρ
                have u1 := OpUp_value Try.prog K
                have u2 := OpUp_enter Try.prog K
                go_simp
                exact hK _ _ (Stood.refl _) rfl
              refine StepsOK.cons ?_ ?_
              · -- 13: Go.Op.call { callee := Go.Callee.value (Go.Operand.func 54), args := #[Go.Operan
                intro a w1 hR1 hF hU hsz
                have e41 : a.eval (.tmp 41) = _ := hF 12 _ _ rfl rfl (by kernel_rfl)
                have e38 : a.eval (.tmp 38) = _ := hF 9 _ _ rfl rfl (by kernel_rfl)
                rw [wanted_guard (ops := _) rfl rfl rfl e38, if_pos (by rfl)]
                intro K hK
                clear hF hU hsz
                obtain ⟨q1, q2, q3⟩ := eval_rest a
                generalize hρ : a.eval = ρ
                rw [hρ] at q1 q2 q3 e38 e41
                clear hρ
                have u1 := OpUp_value Try.prog K
                have u2 := OpUp_enter Try.prog K
                go_simp
                refine (KN.out w1).mono ?_
                rintro e w' ⟨rfl, hb⟩
                exact ⟨_, rfl, hK _ _ hb rfl⟩
              refine StepsOK.cons ?_ ?_
              · -- 14: Go.Op.binOp Go.BinOp.eql 3 (Go.Operand.tmp 40) (Go.Operand.tmp 42) 3
                intro a w1 hR1 hF hU hsz
                have e40 : a.eval (.tmp 40) = _ := hF 11 _ _ rfl rfl (by kernel_rfl)
                have e42 : a.eval (.tmp 42) = _ := hF 13 _ _ rfl rfl (by kernel_rfl)
                have e38 : a.eval (.tmp 38) = _ := hF 9 _ _ rfl rfl (by kernel_rfl)
                rw [wanted_guard (ops := _) rfl rfl rfl e38, if_pos (by rfl)]
                intro K hK
                clear hF hU hsz
                obtain ⟨q1, q2, q3⟩ := eval_rest a
                generalize hρ : a.eval = ρ
                rw [hρ] at q1 q2 q3 e38 e40 e42
                clear hρ
                have u1 := OpUp_value Try.prog K
                have u2 := OpUp_enter Try.prog K
                go_simp
                exact hK _ _ (Stood.refl _) rfl
              refine StepsOK.cons ?_ ?_
              · -- 15: Go.Op.pick (Go.Operand.tmp 38) (Go.Operand.tmp 43) (Go.Operand.const (Go.Value.b
                intro a w1 hR1 hF hU hsz
                have e38 : a.eval (.tmp 38) = _ := hF 9 _ _ rfl rfl (by kernel_rfl)
                have e43 : a.eval (.tmp 43) = _ := hF 14 _ _ rfl rfl (by kernel_rfl)
                rw [if_pos (by rfl)]
                intro K hK
                clear hF hU hsz
                obtain ⟨q1, q2, q3⟩ := eval_rest a
                generalize hρ : a.eval = ρ
                rw [hρ] at q1 q2 q3 e38 e43
                clear hρ
                have u1 := OpUp_value Try.prog K
                have u2 := OpUp_enter Try.prog K
                go_simp
                exact hK _ _ (Stood.refl _) rfl
              refine StepsOK.cons ?_ ?_
              · -- 16: Go.Op.assign (Go.Operand.tmp 44)
                intro a w1 hR1 hF hU hsz
                have e44 : a.eval (.tmp 44) = _ := hF 15 _ _ rfl rfl (by kernel_rfl)
                rw [if_pos (by rfl)]
                intro K hK
                clear hF hU hsz
                obtain ⟨q1, q2, q3⟩ := eval_rest a
                generalize hρ : a.eval = ρ
                rw [hρ] at q1 q2 q3 e44
                clear hρ
                have u1 := OpUp_value Try.prog K
                have u2 := OpUp_enter Try.prog K
                go_simp
                exact hK _ _ (Stood.refl _) rfl
              exact StepsOK.nil
            case hend =>
              intro vs0 w1 hR1 hH0
              obtain ⟨vs1, rfl, hH1⟩ := hH0.eq_
              obtain ⟨vs2, rfl, hH2⟩ := hH1.eq_
              obtain ⟨vs3, rfl, hH3⟩ := hH2.eq_
              obtain ⟨vs4, rfl, hH4⟩ := hH3.eq_
              obtain ⟨vs5, rfl, hH5⟩ := hH4.eq_
              obtain ⟨vs6, rfl, hH6⟩ := hH5.eq_
              obtain ⟨vs7, rfl, hH7⟩ := hH6.eq_
              obtain ⟨vs8, rfl, hH8⟩ := hH7.eq_
              obtain ⟨vs9, rfl, hH9⟩ := hH8.eq_
              obtain ⟨vs10, rfl, hH10⟩ := hH9.eq_
              obtain ⟨vs11, rfl, hH11⟩ := hH10.eq_
              obtain ⟨vs12, rfl, hH12⟩ := hH11.eq_
              obtain ⟨vs13, rfl, hH13⟩ := hH12.eq_
              obtain ⟨vs14, rfl, hH14⟩ := hH13.eq_
              obtain ⟨vs15, rfl, hH15⟩ := hH14.eq_
              obtain ⟨vs16, rfl, hH16⟩ := hH15.eq_
              obtain ⟨vs17, rfl, hH17⟩ := hH16.eq_
              obtain rfl := hH17.nil
              clear hH0 hH1 hH2 hH3 hH4 hH5 hH6 hH7 hH8 hH9 hH10 hH11 hH12 hH13 hH14 hH15 hH16 hH17
              simp only [putAll, Act.put, List.setIfInBounds_toArray, List.set_cons_zero, List.set_cons_succ]
              have HW := Lib.hid (HW.out.trans ((Stood.cur hR1).mono HW.out.size))
              go_wp2
              go_ret
              exact ⟨ret_bool HR.out, HW.out⟩
end Go.Proofs.Ytgkojedgamglgaa
