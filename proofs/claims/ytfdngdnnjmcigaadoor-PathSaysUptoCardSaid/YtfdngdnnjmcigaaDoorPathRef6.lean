/- The reference of chapter 16: Clean. No condition. -/
import Derived.Test.YtfdngdnnjmcigaaDoorEmTwo
namespace Go.Proofs.YtfdngdnnjmcigaaDoor
open Go.RowKit
set_option linter.unusedVariables false
set_option linter.unusedSimpArgs false
def SlQ0 : Fact := fun v _ => ∃ q d, v = .slice (some ⟨q, d, none⟩) 0 0 ∧ True
theorem stab_slq0 {R : World → World → Prop} : Stab R SlQ0 := fun _ _ _ h _ => h
theorem RdS.init_ {w : World} {A : Option Addr} {l : List ByteArray} (h : RdS w A l) : RdS w A l.dropLast := h.init
set_option maxHeartbeats 4000000 in
set_option maxRecDepth 100000 in
theorem rClean_any (s : ByteArray) (w : World) :
    Calls Tryd.prog 19 #[.string s] w fun e w' => e = .returned (.string (cleanB s)) ∧ Below w.heap.size w w' := by
  have KSP := Lib.hid (rSplit_any s w)
  have HCB := Lib.hid (clean_bound s)
  have HSL := Lib.hid (splitL_len s)
  by_cases he : splitE s = 0
  rotate_left
  · have hR := Lib.hid (show cleanB s = ⟨#[]⟩ by unfold cleanB; rw [if_neg he])
    rw [hR.out]
    generalize splitE s = z at *
    go_enter Tryd.func19, Tryd.ntmps19
    go_wp2_with fail
    refine KSP.out.mono ?_
    rintro e w1 ⟨v, rfl, hown, hb1⟩
    go_wp2
    go_ret
    exact ⟨rfl, hb1⟩
  have hR := Lib.hid (show cleanB s = (if cleanF (splitL s) = [] then ⟨#[47]⟩ else joinB (cleanF (splitL s))) by unfold cleanB; rw [if_pos he])
  rw [hR.out]
  rw [he] at KSP
  clear he hR
  generalize splitL s = ps at *
  have hpl : ps.length ≤ 401 := HSL.out
  go_enter Tryd.func19, Tryd.ntmps19
  go_wp2_with fail
  refine KSP.out.mono ?_
  rintro e wb ⟨v, rfl, hown, hb1⟩
  obtain ⟨A5, c5, rfl, hrd, hnc, _⟩ := OwnS.form hown
  have HRD := Lib.hid hrd
  have HB1 := Lib.hid hb1
  clear hrd hown hb1 KSP
  go_wp2
  go_loopw [5, 6] (fun v i wr => ∃ (k : Nat) (A : Option Addr) (c : Nat), k ≤ ps.length ∧ i = .int .i64 k ∧ v = .slice A (cleanF (ps.take k)).length c ∧ (cleanF (ps.take k)).length ≤ c ∧ c ≤ maxLen ∧ RdS wr A (cleanF (ps.take k)) ∧ Below wb.heap.size wb wr) (fun _ i _ => ps.length - (intOf i).toNat)
  case atStart => exact ⟨0, none, 0, Nat.zero_le _, rfl, rfl, Nat.zero_le _, Nat.zero_le _, .inl rfl, Below.refl _ _⟩
  case round =>
    obtain ⟨k, A, c, hk, rfl, rfl, hnc2, hcm, hrd2, hbw⟩ := hrel
    have HB := Lib.hid hbw
    have HRD2 := Lib.hid hrd2
    clear hbw hrd2
    unfold maxLen at hcm
    have hql : (cleanF (ps.take k)).length ≤ 401 := by
      have h1 := cleanF_len (ps.take k) []
      unfold cleanF
      rw [List.length_take] at h1
      simp at h1; omega
    by_cases hlt : k < ps.length
    · obtain ⟨b, off, rfl, hbl, hcq0⟩ := HRD.out.at_ hlt
      have hcq := (HB.out.cell (p := ⟨b, off + k, none⟩) hbl).trans hcq0
      have HF := Lib.hid (cleanF_take ps k ps[k] (List.getElem?_eq_getElem hlt))
      have e1 : IntKind.i64.wrap ((k : Int) + 1) = (k : Int) + 1 := IntWalk.i64_in _ (by omega)
      have hblr : b < wr.heap.size := Nat.lt_of_lt_of_le hbl HB.out.size
      clear hcq0
      generalize ps[k] = x at *
      by_cases hx2 : x.toList = [46, 46]
      · have hx2b : (x.toList == [46, 46]) = true := by rw [hx2]; rfl
        rw [show cleanS (cleanF (ps.take k)) x = (cleanF (ps.take k)).dropLast by unfold cleanS; rw [if_pos hx2]] at HF
        clear hx2
        by_cases hq : 0 < (cleanF (ps.take k)).length
        · have HR2 := Lib.hid (show RdS wr A (cleanF (ps.take (k + 1))) by rw [HF.out]; exact HRD2.out.init)
          have HN2 := Lib.hid (show (cleanF (ps.take (k + 1))).length = (cleanF (ps.take k)).length - 1 by rw [HF.out, List.length_dropLast])
          have HC2 := Lib.hid (show (cleanF (ps.take (k + 1))).length ≤ c by rw [HN2.out]; omega)
          have HCM := Lib.hid (show c ≤ maxLen from hcm)
          clear HRD2 HF
          generalize (cleanF (ps.take k)).length = n at *
          have e2 : IntKind.i64.wrap ((n : Int) - 1) = (n : Int) - 1 := IntWalk.i64_in _ (by omega)
          have e3 : ((n : Int) - 1).toNat = n - 1 := by omega
          have e4 : (0 : Int) < n := by omega
          go_wp2
          go_roundw
          case rel => exact ⟨k + 1, A, c, by omega, by go_num, by rw [HN2.out], HC2.out, HCM.out, HR2.out, HB.out⟩
          case measure => simp [intOf]; omega
        · have hq0 : cleanF (ps.take k) = [] := List.eq_nil_of_length_eq_zero (by omega)
          have HN2 := Lib.hid (show cleanF (ps.take (k + 1)) = [] by rw [HF.out, hq0]; rfl)
          have HCM := Lib.hid (show c ≤ maxLen from hcm)
          rw [hq0]
          clear HRD2 HF hq hql hq0 hnc2
          go_wp2
          go_roundw
          case rel => exact ⟨k + 1, A, c, by omega, by go_num, by first | (rw [HN2.out]; done) | (rw [HN2.out]; rfl), by rw [HN2.out]; exact Nat.zero_le _, HCM.out, by rw [HN2.out]; exact .inl rfl, HB.out⟩
          case measure => simp [intOf]; omega
      · rw [show cleanS (cleanF (ps.take k)) x = cleanF (ps.take k) ++ [x] by unfold cleanS; rw [if_neg hx2]] at HF
        have hx2b : (x.toList == [46, 46]) = false := beq_eq_false_iff_ne.2 hx2
        clear hx2
        have HQL := Lib.hid hql
        clear hql
        generalize cleanF (ps.take k) = rs at *
        have hrl : rs.length ≤ 401 := HQL.out
        go_wp2_with fail
        apply wp_region_ja (fun _ _ => True) (fun _ _ _ _ _ => trivial) (fun _ => trivial) (EmJ wr wr.heap.size rs x) 47 8 (SlQ0 :: Eqs _ :: (fun _ _ => True) :: Eqs _ :: Eqs _ :: Eqs _ :: Eqs _ :: (fun _ _ => True) :: []) (by kernel_rfl) (by rfl) rfl (stab_cons stab_slq0 (stab_cons (stab_eq _) (stab_cons stab_true (stab_cons (stab_eq _) (stab_cons (stab_eq _) (stab_cons (stab_eq _) (stab_cons (stab_eq _) (stab_cons stab_true stab_nil)))))))) (by kernel_rfl) (by kernel_rfl) (by kernel_rfl) (by kernel_rfl)
        case h0 =>
          exact EmJ.start (Nat.le_refl _) _
        case hstep =>
          simp only [List.take_succ_cons, List.take_zero]
          refine ⟨?_, ?_⟩
          · -- 0: Go.Op.buildSlice 24 0 #[]
            intro listed a w1 hJ hls hl0 hlw hlc hF hU hsz
            rw [if_pos (by rfl)]
            intro K hK
            clear hF hU
            have hsz9 : 25 < a.tmps.size := by rw [hsz]; simp only [List.size_toArray, List.length_cons, List.length_nil]; omega
            obtain ⟨q1, q2, q3⟩ := eval_rest a
            generalize hρ : a.eval = ρ
            rw [hρ] at q1 q2 q3
            clear hρ
            have u1 := OpUp_value Tryd.prog K
            have u2 := OpUp_enter Tryd.prog K
            go_simp
            exact hK _ _ (hJ.made0 hls (hlc 2 _ rfl (by kernel_rfl)) hsz9) trivial ⟨_, _, rfl, trivial⟩
          refine ⟨?_, ?_⟩
          · -- 1: Go.Op.move (Go.Operand.tmp 5)
            intro listed a w1 hJ hls hl0 hlw hlc hF hU hsz
            have e5 : a.eval (.tmp 5) = _ := hU 5 (by kernel_rfl)
            rw [if_pos (by rfl)]
            intro K hK
            clear hF hU hsz
            obtain ⟨q1, q2, q3⟩ := eval_rest a
            generalize hρ : a.eval = ρ
            rw [hρ] at q1 q2 q3 e5
            clear hρ
            have u1 := OpUp_value Tryd.prog K
            have u2 := OpUp_enter Tryd.prog K
            go_simp
            exact hK _ _ ((hJ.quiet (by decide) (by decide) _)) trivial rfl
          refine ⟨?_, ?_⟩
          · -- 2: Go.Op.call { callee := Go.Callee.builtin Go.Builtin.append, args := #[Go.Operand
            intro listed a w1 hJ hls hl0 hlw hlc hF hU hsz
            have e25 := hF 0 _ _ rfl rfl (by kernel_rfl)
            obtain ⟨B25, d25, e25, r25⟩ := e25
            have e25 : a.eval (.tmp 25) = _ := e25
            have e26 : a.eval (.tmp 26) = _ := hF 1 _ _ rfl rfl (by kernel_rfl)
            rw [if_pos (by rfl)]
            intro K hK
            clear hF hU
            have hsz9 : 27 < a.tmps.size := by rw [hsz]; simp only [List.size_toArray, List.length_cons, List.length_nil]; omega
            have h9_ := e25
            rw [Act.eval_getD] at h9_
            obtain ⟨q1, q2, q3⟩ := eval_rest a
            generalize hρ : a.eval = ρ
            rw [hρ] at q1 q2 q3 e25 e26
            clear hρ
            have u1 := OpUp_value Tryd.prog K
            have u2 := OpUp_enter Tryd.prog K
            have hl0 : listed.getD 2 false = false := hl0
            have hlb := hlw 0 (by kernel_rfl)
            obtain ⟨i9, hi9, hz0, hz1, hz2⟩ := info_parts infoS
            have hJ0 := hJ
            obtain ⟨A8, c8, hb8, hs8, g0, g1, g2, g3⟩ := hJ
            obtain ⟨ge, go⟩ := g1 hlb hl0
            have ge0 := ge
            rw [ge] at h9_
            injection h9_ with h91 _ h93
            subst h91 h93
            have hrd8 : Rd w1 A (rs.map Value.string) := (HRD2.out.below hb8).rd
            refine OpUp_app (.tmp 25) (.tmp 26) 24 rfl wr.heap.size 9 i9 _ 1 16 Tryd.underlying24 hi9 hz0 hz1 hz2 rfl (by omega) (by omega) _ 0 _ [] e25 go A rs.length c (rs.map Value.string) e26 (by simp) hrd8 (by intro u hu; rw [List.mem_map] at hu; obtain ⟨y, _, rfl⟩ := hu; rfl) (by have := HQL.out; omega) hs8 ?_
            intro A9 c9 w9 k1 k2 k3
            refine hK _ _ (hJ0.app2 ge0 hlb hl0 hls hsz9 ?_ k2 k3) trivial trivial
            unfold OwnS
            simp only [Nat.zero_add, List.nil_append] at k1 ⊢
            exact k1
          refine ⟨?_, ?_⟩
          · -- 3: Go.Op.move (Go.Operand.tmp 3)
            intro listed a w1 hJ hls hl0 hlw hlc hF hU hsz
            have e3 : a.eval (.tmp 3) = _ := hU 3 (by kernel_rfl)
            rw [if_pos (by rfl)]
            intro K hK
            clear hF hU hsz
            obtain ⟨q1, q2, q3⟩ := eval_rest a
            generalize hρ : a.eval = ρ
            rw [hρ] at q1 q2 q3 e3
            clear hρ
            have u1 := OpUp_value Tryd.prog K
            have u2 := OpUp_enter Tryd.prog K
            go_simp
            exact hK _ _ ((hJ.quiet (by decide) (by decide) _)) trivial rfl
          refine ⟨?_, ?_⟩
          · -- 4: Go.Op.move (Go.Operand.tmp 6)
            intro listed a w1 hJ hls hl0 hlw hlc hF hU hsz
            have e6 : a.eval (.tmp 6) = _ := hU 6 (by kernel_rfl)
            rw [if_pos (by rfl)]
            intro K hK
            clear hF hU hsz
            obtain ⟨q1, q2, q3⟩ := eval_rest a
            generalize hρ : a.eval = ρ
            rw [hρ] at q1 q2 q3 e6
            clear hρ
            have u1 := OpUp_value Tryd.prog K
            have u2 := OpUp_enter Tryd.prog K
            go_simp
            exact hK _ _ ((hJ.quiet (by decide) (by decide) _)) trivial rfl
          refine ⟨?_, ?_⟩
          · -- 5: Go.Op.indexAddr 24 (Go.Operand.tmp 28) (Go.Operand.tmp 29)
            intro listed a w1 hJ hls hl0 hlw hlc hF hU hsz
            have e28 : a.eval (.tmp 28) = _ := hF 3 _ _ rfl rfl (by kernel_rfl)
            have e29 : a.eval (.tmp 29) = _ := hF 4 _ _ rfl rfl (by kernel_rfl)
            rw [if_pos (by rfl)]
            intro K hK
            clear hF hU hsz
            obtain ⟨q1, q2, q3⟩ := eval_rest a
            generalize hρ : a.eval = ρ
            rw [hρ] at q1 q2 q3 e28 e29
            clear hρ
            have u1 := OpUp_value Tryd.prog K
            have u2 := OpUp_enter Tryd.prog K
            go_simp
            exact hK _ _ ((hJ.quiet (by decide) (by decide) _)) trivial rfl
          refine ⟨?_, ?_⟩
          · -- 6: Go.Op.load 9 (Go.Operand.tmp 30)
            intro listed a w1 hJ hls hl0 hlw hlc hF hU hsz
            have e30 : a.eval (.tmp 30) = _ := hF 5 _ _ rfl rfl (by kernel_rfl)
            rw [if_pos (by rfl)]
            intro K hK
            clear hF hU hsz
            have hcq_ := (hJ.hb.cell (p := ⟨b, off + k, none⟩) hblr).trans hcq
            obtain ⟨q1, q2, q3⟩ := eval_rest a
            generalize hρ : a.eval = ρ
            rw [hρ] at q1 q2 q3 e30
            clear hρ
            have u1 := OpUp_value Tryd.prog K
            have u2 := OpUp_enter Tryd.prog K
            go_simp
            exact hK _ _ ((hJ.quiet (by decide) (by decide) _)) trivial rfl
          refine ⟨?_, ?_⟩
          · -- 7: Go.Op.buildSlice 24 1 #[(0, Go.Operand.tmp 31)]
            intro listed a w1 hJ hls hl0 hlw hlc hF hU hsz
            have e31 : a.eval (.tmp 31) = _ := hF 6 _ _ rfl rfl (by kernel_rfl)
            rw [if_pos (by rfl)]
            intro K hK
            clear hF hU
            have hsz9 : 32 < a.tmps.size := by rw [hsz]; simp only [List.size_toArray, List.length_cons, List.length_nil]; omega
            obtain ⟨q1, q2, q3⟩ := eval_rest a
            generalize hρ : a.eval = ρ
            rw [hρ] at q1 q2 q3 e31
            clear hρ
            have u1 := OpUp_value Tryd.prog K
            have u2 := OpUp_enter Tryd.prog K
            go_simp
            exact hK _ _ (hJ.made7 hsz9) trivial trivial
          exact trivial
        case hend =>
          intro vs0 w1 listed hJ hl1 hl2 hH0
          obtain ⟨v0, vs1, rfl, hv0, hH1⟩ := hH0.cons
          obtain ⟨vs2, rfl, hH2⟩ := hH1.eq_
          obtain ⟨v2, vs3, rfl, hv2, hH3⟩ := hH2.cons
          obtain ⟨vs4, rfl, hH4⟩ := hH3.eq_
          obtain ⟨vs5, rfl, hH5⟩ := hH4.eq_
          obtain ⟨vs6, rfl, hH6⟩ := hH5.eq_
          obtain ⟨vs7, rfl, hH7⟩ := hH6.eq_
          obtain ⟨v7, vs8, rfl, hv7, hH8⟩ := hH7.cons
          obtain rfl := hH8.nil
          clear hH0 hH1 hH2 hH3 hH4 hH5 hH6 hH7 hH8
          simp only [List.take_succ_cons, List.take_zero, putAll, Act.put, List.setIfInBounds_toArray, List.set_cons_zero, List.set_cons_succ]
          obtain ⟨A6, c6, hb6, hs6, g0, g1, g2, g3⟩ := hJ
          obtain ⟨e2, ho6⟩ := g2 (hl1 2 (by decide))
          obtain ⟨q6, e7, hq6, _, _⟩ := g3 (hl1 7 (by decide))
          simp only [List.take_succ_cons, List.take_zero, putAll, Act.put, List.setIfInBounds_toArray, List.set_cons_zero, List.set_cons_succ] at e2 e7
          have e2 : v2 = .slice A6 rs.length c6 := e2
          have e7 : v7 = .slice (some ⟨q6, 0, none⟩) 1 1 := e7
          subst e2 e7
          obtain ⟨_, _, rfl, _⟩ := hv0
          have HO6 := Lib.hid ho6
          have HB6 := Lib.hid hb6
          have HRN := Lib.hid (show RdF Value.string w1 (some ⟨q6, 0, none⟩) [x] from .inr ⟨q6, 0, rfl, fun j hj => by
            obtain rfl : j = 0 := by simpa using hj
            exact Lib.cell_of_heap hq6 0⟩)
          clear ho6 hb6 hq6 g0 g1 g2 g3 hl1 hl2
          go_wp2_with (first | go_skip | (at_builtin; refine stop_ ?_))
          refine appF (f := Value.string) (fun _ => rfl) 24 9 (.string ByteArray.empty) 16 rfl (by decide) (by decide) Tryd.underlying24 infoS (.tmp 27) (.tmp 32) rfl rfl wr.heap.size A6 rs _ c6 rfl rfl HO6.out (some ⟨q6, 0, none⟩) [x] 1 1 rfl rfl HRN.out (by simp; omega) hs6 ?_
          intro A2 us c2 w3 hus hown hg hloc
          have HU := Lib.hid hus
          have HOU := Lib.hid (show OwnS w3 wr.heap.size (.slice A2 us.length c2) us from hown)
          have HB2 := Lib.hid (HB.out.trans ((HB6.out.grown hg hs6 fun q hq => (own_lt HO6.out q hq).1).mono HB.out.size))
          clear hown hloc hg hus
          unfold Stop
          obtain ⟨_, _, hfm, hrd6, hcap6, _⟩ := OwnS.form HOU.out
          injection hfm with hf1 _ hf2
          subst hf1 hf2
          have HCP := Lib.hid (own_cap HOU.out)
          have HR2 := Lib.hid hrd6
          clear hrd6 hcap6 HOU
          rw [← HF.out] at HU
          go_wp2
          go_roundw
          case rel => exact ⟨k + 1, A2, c2, by omega, by go_num, by rw [HU.out], by rw [← HU.out]; exact HCP.out.1, HCP.out.2, by rw [← HU.out]; exact HR2.out, HB2.out⟩
          case measure => simp [intOf]; omega
    · obtain rfl : k = ps.length := by omega
      rw [List.take_length] at HRD2 hql hnc2 ⊢
      have HBX := Lib.hid (HB1.out.trans (HB.out.mono HB1.out.size))
      by_cases hq : cleanF ps = []
      · rw [hq]
        clear HRD2 HCB
        go_wp2
        go_ret
        exact ⟨rfl, HBX.out⟩
      · have hq0 : 0 < (cleanF ps).length := Nat.pos_of_ne_zero (fun h => hq (List.eq_nil_of_length_eq_zero h))
        have HQ := Lib.hid hq
        have KJ := Lib.hid (rJoin_any A (cleanF ps) c wr HRD2.out (by omega) (by have := HCB.out.2; omega))
        clear HRD2 HCB hq
        generalize (cleanF ps).length = n at *
        have e4 : ¬ (n : Int) = 0 := by omega
        have e5 : ((n : Int) == 0) = false := by simp; omega
        have e6 : ¬ n = 0 := by omega
        go_wp2_with fail
        refine KJ.out.mono ?_
        rintro e w3 ⟨rfl, hw3⟩
        subst hw3
        go_wp2
        go_ret
        exact ⟨rfl, HBX.out⟩
end Go.Proofs.YtfdngdnnjmcigaaDoor
