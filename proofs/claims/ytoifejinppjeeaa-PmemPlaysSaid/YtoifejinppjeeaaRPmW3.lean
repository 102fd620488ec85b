/- The walks of the reference's memory: Flush, Fence, Fuse, Words. Conditions: those of RMemAt; room in the lines; small counts. -/
import Derived.Test.YtoifejinppjeeaaRPmW2
import Derived.BigQuiet
namespace Go.Proofs.Ytoifejinppjeeaa
open Go.RowKit
set_option linter.unusedVariables false
set_option linter.unusedSimpArgs false
set_option maxRecDepth 100000 in
set_option maxHeartbeats 4000000 in
theorem rmFlush_any (m : Nat) (own : Nat → Nat) (G : MG) (a : AM) (zs : List Int) (K : Option Addr) (kc : Nat) (w : World) (h : RMemAt w m own G a) (hr : a.room 1000) (hf : a.fit) (hk : ∀ W own', MFr w W own own' → RdF I6 W K zs) (hn : zs.length ≤ 1000) :
    Calls Try.prog 41 #[.pointer (some ⟨m, 0, none⟩), .slice K zs.length kc] w fun e w' => e = .returned (.int .i64 (a.flush zs).2) ∧ RPost w m own G (a.flush zs).1 w' := by
  obtain ⟨_, _, _, _, c1, _⟩ := h.cells
  cases ho : a.off with
  | true =>
    have HR := Lib.hid (show a.flush zs = (a, 14) by unfold AM.flush; rw [if_pos ho])
    have HM := Lib.hid h
    rw [ho] at c1
    clear h ho hr hf hk
    go_enter Try.func41, Try.ntmps41
    go_wp2
    go_ret
    exact ⟨ret_int (by rw [HR.out]), by rw [HR.out]; exact ⟨own, HM.out, MFr.refl _ _⟩⟩
  | false =>
    have hof : ¬ a.off = true := by rw [ho]; exact Bool.false_ne_true
    rw [ho] at c1
    have HM := Lib.hid h
    have HK := Lib.hid hk
    have hfew := h.few
    have HXL0 := Lib.hid (show G.xs.length = a.ls.length from h.len)
    have hgl : G.xs.length ≤ 1024 := by rw [HXL0.out]; exact hfew
    have KB := Lib.hid (fun W (hb : Below w.heap.size w W) => rmBlown_any m own G a W (h.below hb) hr hf.f1)
    have HRM := Lib.hid hr
    have HFT := Lib.hid hf
    clear h hk hr hf hfew ho
    have HOF := Lib.hid hof
    clear hof
    go_enter Try.func41, Try.ntmps41
    go_wp2
    clear c1
    go_loopw [5] (fun i wr => ∃ k : Nat, k ≤ zs.length ∧ i = .int .i64 k ∧ (zs.take k).any a.none = false ∧ Drawn w wr) (fun i _ => zs.length - (intOf i).toNat)
    case atStart => exact ⟨0, Nat.zero_le _, rfl, rfl, Drawn.refl _⟩
    case round =>
      obtain ⟨k, hk, rfl, hany, hd⟩ := hrel
      have HANY := Lib.hid hany
      have HD := Lib.hid hd
      clear hany hd
      have HMR := Lib.hid (HM.out.below (HD.out.below _))
      obtain ⟨_, _, _, d0, _⟩ := HMR.out.cells
      by_cases hlt : k < zs.length
      · obtain ⟨lb, lo, rfl, hlc⟩ := (HK.out wr own (MFr.of_below own (HD.out.below _))).at_ hlt
        have hk1 := hlc k hlt
        unfold I6 at hk1
        have HTK := Lib.hid (any_take_f a.none zs k hlt)
        have HALL := Lib.hid (fun (h : a.none zs[k] = true) => show zs.any a.none = true from List.any_eq_true.2 ⟨_, List.getElem_mem hlt, h⟩)
        have e0 : IntKind.i64.wrap ((k : Int) + 1) = (k : Int) + 1 := IntWalk.i64_in _ (by omega)
        clear hlc
        generalize zs[k] = z at *
        by_cases z0 : z < 0
        · have HR := Lib.hid (show a.flush zs = (a, 1) by unfold AM.flush; rw [if_neg HOF.out, if_pos (HALL.out (decide_eq_true (.inl z0)))])
          go_wp2
          go_quiet (fail)
          go_wp2
          go_ret
          exact ⟨ret_int (by rw [HR.out]), by rw [HR.out]; exact ⟨own, HMR.out.below ((Drawn.some_ _ _).below _), MFr.of_below own ((HD.out.trans (Drawn.some_ _ _)).below _)⟩⟩
        by_cases z1 : (G.xs.length : Int) ≤ z
        · have HR := Lib.hid (show a.flush zs = (a, 1) by unfold AM.flush; rw [if_neg HOF.out, if_pos (HALL.out (decide_eq_true (.inr (by rw [← HXL0.out]; exact z1))))])
          go_wp2
          go_quiet (fail)
          go_wp2
          go_ret
          exact ⟨ret_int (by rw [HR.out]), by rw [HR.out]; exact ⟨own, HMR.out.below ((Drawn.some_ _ _).below _), MFr.of_below own ((HD.out.trans (Drawn.some_ _ _)).below _)⟩⟩
        have HA2 := Lib.hid (show (zs.take (k + 1)).any a.none = false by
          rw [HTK.out, HANY.out]
          unfold AM.none
          rw [decide_eq_false (by rw [← HXL0.out]; omega)]; rfl)
        go_wp2
        go_quiet (fail)
        go_wp2
        go_roundw
        case rel => exact ⟨k + 1, by omega, by go_num, HA2.out, HD.out.trans (Drawn.some_ _ _)⟩
        case measure => simp [intOf]; omega
      · obtain rfl : k = zs.length := by omega
        rw [List.take_length] at HANY
        have hhf : ¬ zs.any a.none = true := by rw [HANY.out]; exact Bool.false_ne_true
        have KB := Lib.hid (KB.out wr (HD.out.below _))
        have HF0 := Lib.hid (MFr.of_below own (HD.out.below w.heap.size))
        cases hb : a.burn.2 with
        | false =>
          have HR := Lib.hid (show a.flush zs = (a.burn.1, 14) by unfold AM.flush; rw [if_neg HOF.out, if_neg hhf, if_pos hb])
          rw [hb] at KB
          clear hhf hb
          generalize a.burn.1 = a1 at *
          go_wp2_with fail
          refine KB.out.mono ?_
          rintro e w1 ⟨rfl, hp⟩
          have HP := Lib.hid (RPost.trans HF0.out hp)
          clear hp
          go_wp2
          go_ret
          exact ⟨ret_int (by rw [HR.out]), by rw [HR.out]; exact HP.out⟩
        | true =>
          have HR := Lib.hid (show a.flush zs = ({ a.burn.1 with ls := flushL a.burn.1.ls zs, n2 := a.burn.1.n2 + 1 }, 0) by unfold AM.flush; rw [if_neg HOF.out, if_neg hhf, if_neg (by rw [hb]; exact fun h => by cases h)])
          rw [hb] at KB
          have HR1 := Lib.hid (burn_room HRM.out)
          have hl1 := burn_len a
          have hn1 := (burn_n a).2.1
          have hc1 := HFT.out.c2
          have HZ := Lib.hid (fun (k : Nat) (hk : k < zs.length) => show 0 ≤ zs[k] ∧ zs[k] < (a.burn.1.ls.length : Int) by
            rw [hl1]
            exact none_no (Bool.eq_false_iff.2 (List.any_eq_false.1 HANY.out zs[k] (List.getElem_mem hk))))
          have HXL := Lib.hid (show G.xs.length = a.burn.1.ls.length by rw [hl1]; exact HXL0.out)
          rw [← hn1] at hc1
          have e3 : IntKind.i64.wrap (a.burn.1.n2 + 1) = a.burn.1.n2 + 1 := IntWalk.i64_in _ (by omega)
          clear hhf hb hl1 hn1 d0 HMR HM HXL0
          generalize a.burn.1 = a1 at *
          obtain ⟨GA, gc, xs⟩ := G
          simp only at hgl HXL
          rw [← HXL.out] at HZ
          go_wp2_with fail
          refine KB.out.mono ?_
          rintro e w1 ⟨rfl, own1, hm1, hf1⟩
          obtain ⟨_, _, _, _, _, _, _, _, d5, _⟩ := hm1.cells
          have f5 := hm1.fz 5
          have HM1 := Lib.hid (show RMemAt (w1.setCell ⟨m, 5, none⟩ (.int .i64 (a1.n2 + 1))) m own1 ⟨GA, gc, xs⟩ { { a1 with n2 := a1.n2 + 1 } with ls := flushL a1.ls (zs.take 0) } from hm1.setN2 (a1.n2 + 1))
          have HF1 := Lib.hid ((HF0.out.trans hf1).trans (rreM_fr hm1 (i := 5) (v := .int .i64 (a1.n2 + 1))))
          clear hm1 hf1
          go_wp2
          clear d5 f5
          go_loopw [6] (fun i wr => ∃ k : Nat, k ≤ zs.length ∧ i = .int .i64 k ∧ ∃ own', RMemAt wr m own' ⟨GA, gc, xs⟩ { { a1 with n2 := a1.n2 + 1 } with ls := flushL a1.ls (zs.take k) } ∧ MFr w wr own own') (fun i _ => zs.length - (intOf i).toNat)
          case atStart => exact ⟨0, Nat.zero_le _, rfl, own1, HM1.out, HF1.out⟩
          case round =>
            clear HM1 HF1
            skip
            obtain ⟨k, hk, rfl, own2, hm, hf⟩ := hrel
            have HM := Lib.hid hm
            have HF := Lib.hid hf
            clear hm hf
            obtain ⟨_, _, _, d0, _⟩ := HM.out.cells
            simp only at d0
            by_cases hlt : k < zs.length
            · obtain ⟨lb, lo, rfl, hlc⟩ := (HK.out _ own2 HF.out).at_ hlt
              have hk1 := hlc k hlt
              unfold I6 at hk1
              have hz := HZ.out k hlt
              have HT := Lib.hid (flushL_take a1.ls zs k hlt)
              have e0 : IntKind.i64.wrap ((k : Int) + 1) = (k : Int) + 1 := IntWalk.i64_in _ (by omega)
              clear hlc
              generalize zs[k] = z at *
              obtain ⟨i, rfl⟩ := Int.eq_ofNat_of_zero_le hz.1
              have hiz := hz.2
              have hil : i < (flushL a1.ls (zs.take k)).length := by rw [flushL_len, ← HXL.out]; omega
              obtain ⟨b, off, x, rfl, hx, hc, hln⟩ := HM.out.at_ (i := i) hil
              have hok := hln.1
              have hlq : (flushL a1.ls (zs.take k)).getD i z0 = (flushL a1.ls (zs.take k))[i] := by rw [List.getD_eq_getElem?_getD, List.getElem?_eq_getElem hil]; rfl
              have hrm := flushL_room (ls := a1.ls) (n := 1000) HR1.out (zs.take k) _ (List.getElem_mem hil)
              rw [Int.toNat_natCast, hlq] at HT
              simp only at hln hok
              generalize hll : (flushL a1.ls (zs.take k))[i] = l at *
              clear hll hlq
              obtain ⟨_, _, S, sc, O, oc, hat, hbo⟩ := hln
              have KS := Lib.hid (fun W (hb : Below _ _ W) => rFlush_any x _ _ _ S O sc oc W (hat.below hb) hrm)
              have HB0 := Lib.hid (fun q hq => hbo q hq)
              have HX := Lib.hid hx
              have HOK := Lib.hid hok
              have HIL := Lib.hid hil
              clear hok hat hbo hx hil hz hrm
              go_wp2_with fail
              apply wp_region_last 60 (Eqs _ :: Eqs _ :: Eqs _ :: Eqs _ :: Eqs _ :: Eqs _ :: Eqs _ :: Eqs _ :: Eqs _ :: Eqs _ :: []) rfl (by kernel_rfl) (by rfl) (stab_cons (stab_eq _) (stab_cons (stab_eq _) (stab_cons (stab_eq _) (stab_cons (stab_eq _) (stab_cons (stab_eq _) (stab_cons (stab_eq _) (stab_cons (stab_eq _) (stab_cons (stab_eq _) (stab_cons (stab_eq _) (stab_cons (stab_eq _) stab_nil)))))))))) (by kernel_rfl) (by kernel_rfl) (by kernel_rfl)
              case hstep =>
                simp only [List.dropLast_cons_cons, List.dropLast_singleton]
                refine StepsOK.cons ?_ ?_
                · -- 0: Go.Op.move (Go.Operand.tmp 0)
                  intro a w1 hR1 hF hU hsz
                  have e0 : a.eval (.tmp 0) = _ := hU 0 (by kernel_rfl)
                  rw [if_pos (by rfl)]
                  intro K hK
                  clear hF hU hsz
                  obtain ⟨q1, q2, q3⟩ := eval_rest a
                  generalize hρ : a.eval = ρ
                  rw [hρ] at q1 q2 q3 e0
                  clear hρ
                  have u1 := OpUp_value Try.prog K
                  have u2 := OpUp_enter Try.prog K
                  go_simp
                  exact hK _ _ (Stood.refl _) rfl
                refine StepsOK.cons ?_ ?_
                · -- 1: Go.Op.nilCheck (Go.Operand.tmp 49)
                  intro a w1 hR1 hF hU hsz
                  have e49 : a.eval (.tmp 49) = _ := hF 0 _ _ rfl rfl (by kernel_rfl)
                  rw [if_pos (by rfl)]
                  intro K hK
                  clear hF hU hsz
                  obtain ⟨q1, q2, q3⟩ := eval_rest a
                  generalize hρ : a.eval = ρ
                  rw [hρ] at q1 q2 q3 e49
                  clear hρ
                  have u1 := OpUp_value Try.prog K
                  have u2 := OpUp_enter Try.prog K
                  go_simp
                  exact hK _ _ (Stood.refl _) rfl
                refine StepsOK.cons ?_ ?_
                · -- 2: Go.Op.fieldAddr 63 (Go.Operand.tmp 50) 0
                  intro a w1 hR1 hF hU hsz
                  have e50 : a.eval (.tmp 50) = _ := hF 1 _ _ rfl rfl (by kernel_rfl)
                  rw [if_pos (by rfl)]
                  intro K hK
                  clear hF hU hsz
                  obtain ⟨q1, q2, q3⟩ := eval_rest a
                  generalize hρ : a.eval = ρ
                  rw [hρ] at q1 q2 q3 e50
                  clear hρ
                  have u1 := OpUp_value Try.prog K
                  have u2 := OpUp_enter Try.prog K
                  go_simp
                  exact hK _ _ (Stood.refl _) rfl
                refine StepsOK.cons ?_ ?_
                · -- 3: Go.Op.load 61 (Go.Operand.tmp 51)
                  intro a w1 hR1 hF hU hsz
                  have e51 : a.eval (.tmp 51) = _ := hF 2 _ _ rfl rfl (by kernel_rfl)
                  rw [if_pos (by rfl)]
                  intro K hK
                  clear hF hU hsz
                  have d0_ := ((Stood.cur hR1).cell (cell_lt d0)).trans d0
                  obtain ⟨q1, q2, q3⟩ := eval_rest a
                  generalize hρ : a.eval = ρ
                  rw [hρ] at q1 q2 q3 e51
                  clear hρ
                  have u1 := OpUp_value Try.prog K
                  have u2 := OpUp_enter Try.prog K
                  go_simp
                  exact hK _ _ (Stood.refl _) rfl
                refine StepsOK.cons ?_ ?_
                · -- 4: Go.Op.move (Go.Operand.tmp 1)
                  intro a w1 hR1 hF hU hsz
                  have e1 : a.eval (.tmp 1) = _ := hU 1 (by kernel_rfl)
                  rw [if_pos (by rfl)]
                  intro K hK
                  clear hF hU hsz
                  obtain ⟨q1, q2, q3⟩ := eval_rest a
                  generalize hρ : a.eval = ρ
                  rw [hρ] at q1 q2 q3 e1
                  clear hρ
                  have u1 := OpUp_value Try.prog K
                  have u2 := OpUp_enter Try.prog K
                  go_simp
                  exact hK _ _ (Stood.refl _) rfl
                refine StepsOK.cons ?_ ?_
                · -- 5: Go.Op.move (Go.Operand.tmp 6)
                  intro a w1 hR1 hF hU hsz
                  have e6 : a.eval (.tmp 6) = _ := hU 6 (by kernel_rfl)
                  rw [if_pos (by rfl)]
                  intro K hK
                  clear hF hU hsz
                  obtain ⟨q1, q2, q3⟩ := eval_rest a
                  generalize hρ : a.eval = ρ
                  rw [hρ] at q1 q2 q3 e6
                  clear hρ
                  have u1 := OpUp_value Try.prog K
                  have u2 := OpUp_enter Try.prog K
                  go_simp
                  exact hK _ _ (Stood.refl _) rfl
                refine StepsOK.cons ?_ ?_
                · -- 6: Go.Op.indexAddr 39 (Go.Operand.tmp 53) (Go.Operand.tmp 54)
                  intro a w1 hR1 hF hU hsz
                  have e53 : a.eval (.tmp 53) = _ := hF 4 _ _ rfl rfl (by kernel_rfl)
                  have e54 : a.eval (.tmp 54) = _ := hF 5 _ _ rfl rfl (by kernel_rfl)
                  rw [if_pos (by rfl)]
                  intro K hK
                  clear hF hU hsz
                  obtain ⟨q1, q2, q3⟩ := eval_rest a
                  generalize hρ : a.eval = ρ
                  rw [hρ] at q1 q2 q3 e53 e54
                  clear hρ
                  have u1 := OpUp_value Try.prog K
                  have u2 := OpUp_enter Try.prog K
                  go_simp
                  exact hK _ _ (Stood.refl _) rfl
                refine StepsOK.cons ?_ ?_
                · -- 7: Go.Op.load 3 (Go.Operand.tmp 55)
                  intro a w1 hR1 hF hU hsz
                  have e55 : a.eval (.tmp 55) = _ := hF 6 _ _ rfl rfl (by kernel_rfl)
                  rw [if_pos (by rfl)]
                  intro K hK
                  clear hF hU hsz
                  have hk1_ := ((Stood.cur hR1).cell (cell_lt hk1)).trans hk1
                  obtain ⟨q1, q2, q3⟩ := eval_rest a
                  generalize hρ : a.eval = ρ
                  rw [hρ] at q1 q2 q3 e55
                  clear hρ
                  have u1 := OpUp_value Try.prog K
                  have u2 := OpUp_enter Try.prog K
                  go_simp
                  exact hK _ _ (Stood.refl _) rfl
                refine StepsOK.cons ?_ ?_
                · -- 8: Go.Op.indexAddr 61 (Go.Operand.tmp 52) (Go.Operand.tmp 56)
                  intro a w1 hR1 hF hU hsz
                  have e52 : a.eval (.tmp 52) = _ := hF 3 _ _ rfl rfl (by kernel_rfl)
                  have e56 : a.eval (.tmp 56) = _ := hF 7 _ _ rfl rfl (by kernel_rfl)
                  rw [if_pos (by rfl)]
                  intro K hK
                  clear hF hU hsz
                  obtain ⟨q1, q2, q3⟩ := eval_rest a
                  generalize hρ : a.eval = ρ
                  rw [hρ] at q1 q2 q3 e52 e56
                  clear hρ
                  have u1 := OpUp_value Try.prog K
                  have u2 := OpUp_enter Try.prog K
                  go_simp
                  exact hK _ _ (Stood.refl _) rfl
                refine StepsOK.cons ?_ ?_
                · -- 9: Go.Op.load 125 (Go.Operand.tmp 57)
                  intro a w1 hR1 hF hU hsz
                  have e57 : a.eval (.tmp 57) = _ := hF 8 _ _ rfl rfl (by kernel_rfl)
                  rw [if_pos (by rfl)]
                  intro K hK
                  clear hF hU hsz
                  have hc_ := ((Stood.cur hR1).cell (cell_lt hc)).trans hc
                  obtain ⟨q1, q2, q3⟩ := eval_rest a
                  generalize hρ : a.eval = ρ
                  rw [hρ] at q1 q2 q3 e57
                  clear hρ
                  have u1 := OpUp_value Try.prog K
                  have u2 := OpUp_enter Try.prog K
                  go_simp
                  exact hK _ _ (Stood.refl _) rfl
                exact StepsOK.nil
              case hend =>
                intro vs0 w1 hR1 hH0
                obtain ⟨vs1, rfl, hH1⟩ := hH0.eq_
                obtain ⟨vs2, rfl, hH2⟩ := hH1.eq_
                obtain ⟨vs3, rfl, hH3⟩ := hH2.eq_
                obtain ⟨vs4, rfl, hH4⟩ := hH3.eq_
                obtain ⟨vs5, rfl, hH5⟩ := hH4.eq_
                obtain ⟨vs6, rfl, hH6⟩ := hH5.eq_
                obtain ⟨vs7, rfl, hH7⟩ := hH6.eq_
                obtain ⟨vs8, rfl, hH8⟩ := hH7.eq_
                obtain ⟨vs9, rfl, hH9⟩ := hH8.eq_
                obtain ⟨vs10, rfl, hH10⟩ := hH9.eq_
                obtain rfl := hH10.nil
                clear hH0 hH1 hH2 hH3 hH4 hH5 hH6 hH7 hH8 hH9 hH10
                simp only [List.dropLast_cons_cons, List.dropLast_singleton, putAll, Act.put, List.setIfInBounds_toArray, List.set_cons_zero, List.set_cons_succ]
                go_wp2_with fail
                have HM9 := Lib.hid (HM.out.below (Stood.cur hR1))
                have HF9 := Lib.hid (HF.out.trans (MFr.of_below own2 (Stood.cur hR1)))
                have KS := Lib.hid (KS.out w1 (Stood.cur hR1))
                clear hR1
                refine KS.out.mono ?_
                rintro e w2 ⟨rfl, ⟨O2, oc2, hl2, hn2⟩, hf2⟩
                obtain ⟨own3, hm2, hf3⟩ := HM9.out.setLine HIL.out HX.out hf2 (l' := Ln.flush _) (HOK.out.flush) hl2 (fun q hq => by
                  rcases hq with hq | hq
                  · exact .inl ⟨HB0.out q (.inl hq), HM9.out.tag (HB0.out q (.inl hq))⟩
                  · exact .inr (hn2 q hq))
                have HM2 := Lib.hid hm2
                have HF2 := Lib.hid (HF9.out.trans hf3)
                clear hl2 hf2 hm2 hf3 hn2
                go_wp2
                go_roundw
                case rel => exact ⟨k + 1, by omega, by go_num, own3, by rw [HT.out]; exact HM2.out, HF2.out⟩
                case measure => simp [intOf]; omega
            · obtain rfl : k = zs.length := by omega
              rw [List.take_length] at HM
              have HP := Lib.hid (show RPost w m own ⟨GA, gc, xs⟩ (a.flush zs).1 _ by
                rw [HR.out]
                exact ⟨own2, HM.out, HF.out⟩)
              go_wp2
              go_ret
              exact ⟨ret_int (by rw [HR.out]), HP.out⟩
set_option maxRecDepth 100000 in
set_option maxHeartbeats 4000000 in
theorem rmFence_any (m : Nat) (own : Nat → Nat) (G : MG) (a : AM) (w : World) (h : RMemAt w m own G a) (hr : a.room 1000) (hf : a.fit) :
    Calls Try.prog 42 #[.pointer (some ⟨m, 0, none⟩)] w fun e w' => e = .returned (.int .i64 a.fence.2) ∧ RPost w m own G a.fence.1 w' := by
  obtain ⟨_, _, _, _, c1, _⟩ := h.cells
  cases ho : a.off with
  | true =>
    have HR := Lib.hid (show a.fence = (a, 14) by unfold AM.fence; rw [if_pos ho])
    have HM := Lib.hid h
    rw [ho] at c1
    clear h ho hr hf
    go_enter Try.func42, Try.ntmps42
    go_wp2
    go_ret
    exact ⟨ret_int (by rw [HR.out]), by rw [HR.out]; exact ⟨own, HM.out, MFr.refl _ _⟩⟩
  | false =>
    have hof : ¬ a.off = true := by rw [ho]; exact Bool.false_ne_true
    rw [ho] at c1
    have KB := Lib.hid (rmBlown_any m own G a w h hr hf.f1)
    cases hb : a.burn.2 with
    | false =>
      have HR := Lib.hid (show a.fence = (a.burn.1, 14) by unfold AM.fence; rw [if_neg hof, if_pos hb])
      rw [hb] at KB
      clear h ho hof hb hr hf
      generalize a.burn.1 = a1 at *
      go_enter Try.func42, Try.ntmps42
      go_wp2_with fail
      refine KB.out.mono ?_
      rintro e w1 ⟨rfl, hp⟩
      have HP := Lib.hid hp
      clear hp
      go_wp2
      go_ret
      exact ⟨ret_int (by rw [HR.out]), by rw [HR.out]; exact HP.out⟩
    | true =>
      have HR := Lib.hid (show a.fence = ({ a.burn.1 with ls := a.burn.1.ls.map Ln.fence, n3 := a.burn.1.n3 + 1 }, 0) by unfold AM.fence; rw [if_neg hof, if_neg (by rw [hb]; exact fun h => by cases h)])
      rw [hb] at KB
      have HR1 := Lib.hid (burn_room hr)
      have hl1 := burn_len a
      have hn1 := (burn_n a).2.2
      have hc1 := hf.c3
      have HXL := Lib.hid (show G.xs.length = a.burn.1.ls.length by rw [hl1]; exact h.len)
      have hfew : G.xs.length ≤ 1024 := by have := h.few; have := h.len; omega
      rw [← hn1] at hc1
      have e3 : IntKind.i64.wrap (a.burn.1.n3 + 1) = a.burn.1.n3 + 1 := IntWalk.i64_in _ (by omega)
      clear h ho hof hb hr hf hl1 hn1
      generalize a.burn.1 = a1 at *
      obtain ⟨GA, gc, xs⟩ := G
      simp only at hfew HXL
      go_enter Try.func42, Try.ntmps42
      go_wp2_with fail
      refine KB.out.mono ?_
      rintro e w1 ⟨rfl, own1, hm1, hf1⟩
      obtain ⟨_, _, _, _, _, _, _, _, _, d6, _⟩ := hm1.cells
      have f6 := hm1.fz 6
      have HM1 := Lib.hid (show RMemAt (w1.setCell ⟨m, 6, none⟩ (.int .i64 (a1.n3 + 1))) m own1 ⟨GA, gc, xs⟩ { { a1 with n3 := a1.n3 + 1 } with ls := fencedK a1.ls 0 } from hm1.setN3 (a1.n3 + 1))
      have HF1 := Lib.hid (hf1.trans (rreM_fr hm1 (i := 6) (v := .int .i64 (a1.n3 + 1))))
      clear hm1 hf1
      go_wp2
      clear d6 f6
      go_loopw [3] (fun i wr => ∃ k : Nat, k ≤ xs.length ∧ i = .int .i64 k ∧ ∃ own', RMemAt wr m own' ⟨GA, gc, xs⟩ { { a1 with n3 := a1.n3 + 1 } with ls := fencedK a1.ls k } ∧ MFr w wr own own') (fun i _ => xs.length - (intOf i).toNat)
      case atStart => exact ⟨0, Nat.zero_le _, rfl, own1, HM1.out, HF1.out⟩
      case round =>
        clear HM1 HF1
        obtain ⟨k, hk, rfl, own2, hm, hf⟩ := hrel
        have HM := Lib.hid hm
        have HF := Lib.hid hf
        clear hm hf
        obtain ⟨_, _, _, d0, _⟩ := HM.out.cells
        simp only at d0
        by_cases hlt : k < xs.length
        · have hka : k < a1.ls.length := by rw [← HXL.out]; exact hlt
          have hil : k < (fencedK a1.ls k).length := by rw [fencedK_len]; exact hka
          obtain ⟨hg, hs⟩ := fencedK_succ a1.ls k hka
          have HS := Lib.hid hs
          have e0 : IntKind.i64.wrap ((k : Int) + 1) = (k : Int) + 1 := IntWalk.i64_in _ (by omega)
          obtain ⟨b, off, x, rfl, hx, hc, hln⟩ := HM.out.at_ (i := k) hil
          have el : (fencedK a1.ls k)[k] = a1.ls[k] := by
            rw [List.getElem?_eq_getElem hil] at hg
            exact Option.some.inj hg
          simp only at hln
          rw [el] at hln
          have hrm := HR1.out a1.ls[k] (List.getElem_mem _)
          generalize a1.ls[k] = l at *
          have hok := hln.1
          obtain ⟨_, _, S, sc, O, oc, hat, hbo⟩ := hln
          have KS := Lib.hid (rFence_any x _ _ _ S O sc oc wr hat hok.2.2 hrm hok.2.1)
          have HX := Lib.hid hx
          have HOK := Lib.hid hok
          have HIL := Lib.hid hil
          have HB0 := Lib.hid (fun q hq => hbo q hq)
          clear hok hat hbo hx hil hs hg el hrm
          go_wp2_with fail
          refine KS.out.mono ?_
          rintro e w2 ⟨rfl, ⟨S2, sc2, O2, oc2, hl2, hn2, hn3⟩, hf2⟩
          obtain ⟨own3, hm2, hf3⟩ := HM.out.setLine HIL.out HX.out hf2 (l' := l.fence) (HOK.out.fence) hl2 (fun q hq => by
            rcases hq with hq | hq
            · exact .inr (hn2 q hq)
            · exact .inl ⟨HB0.out q (.inr (hn3 q hq)), HM.out.tag (HB0.out q (.inr (hn3 q hq)))⟩)
          have HM2 := Lib.hid hm2
          have HF2 := Lib.hid (HF.out.trans hf3)
          clear hl2 hf2 hm2 hf3 hn2 hn3
          go_wp2
          go_roundw
          case rel => exact ⟨k + 1, by omega, by go_num, own3, by rw [HS.out]; exact HM2.out, HF2.out⟩
          case measure => simp [intOf]; omega
        · obtain rfl : k = xs.length := by omega
          rw [HXL.out, fencedK_all] at HM
          have HP := Lib.hid (show RPost w m own ⟨GA, gc, xs⟩ a.fence.1 wr by
            rw [HR.out]
            exact ⟨own2, HM.out, HF.out⟩)
          go_wp2
          go_ret
          exact ⟨ret_int (by rw [HR.out]), HP.out⟩
end Go.Proofs.Ytoifejinppjeeaa
