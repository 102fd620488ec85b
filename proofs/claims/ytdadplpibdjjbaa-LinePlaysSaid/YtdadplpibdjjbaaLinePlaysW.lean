/- The walk of the statement LinePlays. Condition: the slices can be read. -/
import Derived.Test.YtdadplpibdjjbaaLinePair
namespace Go.Proofs.Ytdadplpibdjjbaa
open Go.RowKit
set_option linter.unusedVariables false
set_option linter.unusedSimpArgs false
set_option maxRecDepth 100000 in
set_option maxHeartbeats 8000000 in
theorem LinePlays_walk (xs : List (BitVec 64)) (A : Option Addr) (c : Nat) (l : List Ac) (L : Option Addr) (lc : Nat) (w : World) (hx : RdU w A xs) (hxc : xs.length ≤ c) (hxm : c ≤ maxLen) (hl : RdA w L l ∧ AcFit l) (hlc : l.length ≤ lc) (hlm : lc ≤ maxLen) :
    Calls Try.prog 4 #[.slice A xs.length c, .slice L l.length lc] w fun e w' => e = .returned (.bool true) ∧ Below w.heap.size w w' := by
  have HL := Lib.hid hl.1
  have HX := Lib.hid hx
  clear hl hx
  unfold maxLen at hlm hxm
  by_cases h20 : 20 < xs.length
  · go_enter Try.func4, Try.ntmps4
    go_wp2_with fail
    refine (lineAwake_any _).mono ?_
    rintro e0 w1 ⟨rfl, hb⟩
    have HW := Lib.hid hb
    clear hb
    go_wp2
    go_ret
    exact ⟨rfl, HW.out⟩
  by_cases h60 : 60 < l.length
  · go_enter Try.func4, Try.ntmps4
    go_wp2_with fail
    refine (lineAwake_any _).mono ?_
    rintro e0 w1 ⟨rfl, hb⟩
    have HW := Lib.hid hb
    clear hb
    go_wp2
    go_ret
    exact ⟨rfl, HW.out⟩
  go_enter Try.func4, Try.ntmps4
  go_wp2_with fail
  refine (lineAwake_any _).mono ?_
  rintro e0 w1 ⟨rfl, hb⟩
  have HW := Lib.hid hb
  clear hb
  have hxw := HX.out.below HW.out
  go_wp2_with fail
  refine (lNew2_any A xs c _ hxw).mono ?_
  rintro e0 w2 ⟨rfl, hA, hb⟩
  have hx : w.heap.size ≤ w1.heap.size := HW.out.size
  have hxl := hA.lt
  have HA0 := Lib.hid hA
  have hxw2 := hxw.below hb
  have HW := Lib.hid (HW.out.trans (hb.mono HW.out.size))
  clear hb hA hxw
  go_wp2_with fail
  refine (rNew_any A xs c _ hxw2 (by omega)).mono ?_
  rintro e0 w3 ⟨rfl, hR, hb⟩
  have hy : w.heap.size ≤ w2.heap.size := HW.out.size
  have HP := Lib.hid (show Pair w3 w1.heap.size (w2.heap.size + 1) (f8 xs (min xs.length 8)) [] none 0 0 (f8 xs (min xs.length 8)) (mk [] 0) (some ⟨w2.heap.size, 0, none⟩) 8 none 0 from
    ⟨HA0.out.below hb, hR, by omega, (fun e => by cases e), (fun e => by have e2 : w2.heap.size = w1.heap.size := Option.some.inj e; omega), (fun e => by cases e), (fun q hq => by cases hq), (fun q hq => by cases hq)⟩)
  have HW := Lib.hid (HW.out.trans (hb.mono HW.out.size))
  clear hb hR HA0 hxw2
  generalize f8 xs (min xs.length 8) = s0 at *
  have hyw : w.heap.size ≤ w2.heap.size + 1 := by omega
  obtain ⟨x, hxe⟩ : ∃ x, w1.heap.size = x := ⟨_, rfl⟩
  obtain ⟨y, hye⟩ : ∃ y, w2.heap.size + 1 = y := ⟨_, rfl⟩
  generalize some (⟨w2.heap.size, 0, none⟩ : Addr) = S0 at *
  rw [hxe] at hx HP ⊢
  rw [hye] at hyw HP ⊢
  clear hxl hy hxe hye
  go_wp2
  go_loopw [7] (fun i wr => ∃ k : Nat, k ≤ l.length ∧ i = .int .i64 k ∧ ∃ (ss : List (BitVec 64)) (os : List St) (B : Option Addr) (d n : Nat) (S : Option Addr) (sc : Nat) (O : Option Addr) (oc : Nat), Pair wr x y ss os B d n ss (mk os n) S sc O oc ∧ n ≤ os.length ∧ os.length ≤ k ∧ okS os ∧ Below w.heap.size w wr) (fun i _ => l.length - (intOf i).toNat)
  case atStart => exact ⟨0, Nat.zero_le _, rfl, s0, [], none, 0, 0, S0, 8, none, 0, HP.out, Nat.le_refl _, Nat.le_refl _, (fun s hs => by cases hs), HW.out⟩
  case round =>
    clear HP HW
    obtain ⟨k, hk, rfl, ss, os, B, d, n, S, sc, O, oc, hp, hn, hol, hv, hbw⟩ := hrel
    have HP0 := Lib.hid hp
    have HB0 := Lib.hid hbw
    have HV := Lib.hid hv
    clear hp hbw hv
    by_cases hlt : k < l.length
    · obtain ⟨ab, ao, rfl, hac⟩ := (HL.out.below HB0.out).at_ hlt
      obtain ⟨hk0, hk1, hk2⟩ := hac k hlt
      have e0 : IntKind.i64.wrap ((k : Int) + 1) = (k : Int) + 1 := IntWalk.i64_in _ (by omega)
      clear hac
      generalize l[k] = zv at *
      obtain ⟨z0, z, v⟩ := zv
      simp only at hk0 hk1 hk2
      by_cases hz0 : z0 = 0
      · subst hz0
        go_wp2_with fail
        have hba : Below wr.heap.size wr (wr.alloc (.cells #[.int .i64 0, .int .i64 z, U v] 37)) := (Below.refl _ _).alloc (Nat.le_refl _) _
        have HPA := Lib.hid (HP0.out.below hba)
        have HBA := Lib.hid (HB0.out.alloc HB0.out.size (.cells #[.int .i64 0, .int .i64 z, U v] 37))
        have hbh := heap_alloc_new wr (.cells #[.int .i64 0, .int .i64 z, U v] 37)
        have hbx : wr.heap.size ≠ x := by have := HP0.out.l.lt; omega
        have hby : wr.heap.size ≠ y := by have := HP0.out.r.lt; omega
        have hbb : blk B ≠ some wr.heap.size := fun e => by have := (HP0.out.l.own.lt _ e).2; omega
        have hwb : w.heap.size ≤ wr.heap.size := HB0.out.size
        have HBH := Lib.hid hbh
        clear hba hbh
        generalize hwA : wr.alloc (.cells #[.int .i64 0, .int .i64 z, U v] 37) = wA at *
        clear HP0 HB0 hwA
        obtain ⟨bb, hbe⟩ : ∃ bb : Bool, decide (0 ≤ z ∧ z < 8) = bb := ⟨_, rfl⟩
        have hol9 := okS_len hol z v
        have HV9 := Lib.hid (okS_push HV.out z v)
        have hn9 : n ≤ (if 0 ≤ z ∧ z < 8 then os ++ [(z, v)] else os).length := by
          split
          · rw [List.length_append]; omega
          · exact hn
        obtain ⟨os9, hos⟩ : ∃ os9, (if 0 ≤ z ∧ z < 8 then os ++ [(z, v)] else os) = os9 := ⟨_, rfl⟩
        rw [hos] at hol9 HV9 hn9
        apply wp_region_j (fun l w' => StJ w wr.heap.size #[.int .i64 0, .int .i64 z, U v] 37 x y ss os os9 B d n S sc O oc (l.getD 5 false) (l.getD 11 false) w') 99 12 (Eqs _ :: Eqs _ :: Eqs _ :: Eqs _ :: Eqs _ :: Eqs _ :: Eqs _ :: Eqs _ :: Eqs _ :: Eqs _ :: Eqs _ :: Eqs _ :: []) (by kernel_rfl) (by rfl) rfl (stab_cons (stab_eq _) (stab_cons (stab_eq _) (stab_cons (stab_eq _) (stab_cons (stab_eq _) (stab_cons (stab_eq _) (stab_cons (stab_eq _) (stab_cons (stab_eq _) (stab_cons (stab_eq _) (stab_cons (stab_eq _) (stab_cons (stab_eq _) (stab_cons (stab_eq _) (stab_cons (stab_eq _) stab_nil)))))))))))) (by kernel_rfl) (by kernel_rfl) (by kernel_rfl) (by kernel_rfl)
        case h0 =>
          have hcur := Stood.cur (Stood.refl wA.drew)
          exact ⟨HBH.out, HBA.out.trans (hcur.mono HBA.out.size), HPA.out.below hcur⟩
        case hstep =>
          simp only [List.take_succ_cons, List.take_zero]
          refine ⟨?_, ?_⟩
          · -- 0: Go.Op.move (Go.Operand.tmp 5)
            intro listed a w1 hJ hls hl0 hlw hlc hF hU hsz
            have e5 : a.eval (.tmp 5) = _ := hU 5 (by kernel_rfl)
            rw [if_pos (by rfl)]
            intro K hK
            clear hF hU hsz
            obtain ⟨q1, q2, q3⟩ := eval_rest a
            generalize hρ : a.eval = ρ
            rw [hρ] at q1 q2 q3 e5
            clear hρ
            have u1 := OpUp_value Try.prog K
            have u2 := OpUp_enter Try.prog K
            go_simp
            exact hK _ _ (hJ.quiet (by decide) (by decide)) trivial rfl
          refine ⟨?_, ?_⟩
          · -- 1: Go.Op.fieldAddr 37 (Go.Operand.tmp 8) 1
            intro listed a w1 hJ hls hl0 hlw hlc hF hU hsz
            have e8 : a.eval (.tmp 8) = _ := hU 8 (by kernel_rfl)
            rw [if_pos (by rfl)]
            intro K hK
            clear hF hU hsz
            obtain ⟨q1, q2, q3⟩ := eval_rest a
            generalize hρ : a.eval = ρ
            rw [hρ] at q1 q2 q3 e8
            clear hρ
            have u1 := OpUp_value Try.prog K
            have u2 := OpUp_enter Try.prog K
            go_simp
            exact hK _ _ (hJ.quiet (by decide) (by decide)) trivial rfl
          refine ⟨?_, ?_⟩
          · -- 2: Go.Op.load 3 (Go.Operand.tmp 49)
            intro listed a w1 hJ hls hl0 hlw hlc hF hU hsz
            have e49 : a.eval (.tmp 49) = _ := hF 1 _ _ rfl rfl (by kernel_rfl)
            rw [if_pos (by rfl)]
            intro K hK
            clear hF hU hsz
            have hbc := Lib.cell_of_heap hJ.box 1
            obtain ⟨q1, q2, q3⟩ := eval_rest a
            generalize hρ : a.eval = ρ
            rw [hρ] at q1 q2 q3 e49
            clear hρ
            have u1 := OpUp_value Try.prog K
            have u2 := OpUp_enter Try.prog K
            go_simp
            exact hK _ _ (hJ.quiet (by decide) (by decide)) trivial rfl
          refine ⟨?_, ?_⟩
          · -- 3: Go.Op.fieldAddr 37 (Go.Operand.tmp 8) 2
            intro listed a w1 hJ hls hl0 hlw hlc hF hU hsz
            have e8 : a.eval (.tmp 8) = _ := hU 8 (by kernel_rfl)
            rw [if_pos (by rfl)]
            intro K hK
            clear hF hU hsz
            obtain ⟨q1, q2, q3⟩ := eval_rest a
            generalize hρ : a.eval = ρ
            rw [hρ] at q1 q2 q3 e8
            clear hρ
            have u1 := OpUp_value Try.prog K
            have u2 := OpUp_enter Try.prog K
            go_simp
            exact hK _ _ (hJ.quiet (by decide) (by decide)) trivial rfl
          refine ⟨?_, ?_⟩
          · -- 4: Go.Op.load 25 (Go.Operand.tmp 51)
            intro listed a w1 hJ hls hl0 hlw hlc hF hU hsz
            have e51 : a.eval (.tmp 51) = _ := hF 3 _ _ rfl rfl (by kernel_rfl)
            rw [if_pos (by rfl)]
            intro K hK
            clear hF hU hsz
            have hbc := Lib.cell_of_heap hJ.box 2
            obtain ⟨q1, q2, q3⟩ := eval_rest a
            generalize hρ : a.eval = ρ
            rw [hρ] at q1 q2 q3 e51
            clear hρ
            have u1 := OpUp_value Try.prog K
            have u2 := OpUp_enter Try.prog K
            go_simp
            exact hK _ _ (hJ.quiet (by decide) (by decide)) trivial rfl
          refine ⟨?_, ?_⟩
          · -- 5: Go.Op.call { callee := Go.Callee.value (Go.Operand.func 18), args := #[Go.Operan
            intro listed a w1 hJ hls hl0 hlw hlc hF hU hsz
            have e48 : a.eval (.tmp 48) = _ := hF 0 _ _ rfl rfl (by kernel_rfl)
            have e50 : a.eval (.tmp 50) = _ := hF 2 _ _ rfl rfl (by kernel_rfl)
            have e52 : a.eval (.tmp 52) = _ := hF 4 _ _ rfl rfl (by kernel_rfl)
            rw [if_pos (by rfl)]
            intro K hK
            clear hF hU hsz
            obtain ⟨q1, q2, q3⟩ := eval_rest a
            generalize hρ : a.eval = ρ
            rw [hρ] at q1 q2 q3 e48 e50 e52
            clear hρ
            have u1 := OpUp_value Try.prog K
            have u2 := OpUp_enter Try.prog K
            go_simp
            have hl0 : listed.getD 5 false = false := hl0
            have hl11 := hlc 11 _ rfl (by kernel_rfl)
            rw [hl0, hl11] at hJ
            obtain ⟨hbox, hbw, hp⟩ := hJ
            refine (lStore_any x ss os B d n z v w1 hp.l (by omega)).mono ?_
            rintro e w2 ⟨rfl, ⟨B2, d2, hA2, hnew⟩, hFr⟩
            rw [hbe]
            refine ⟨_, rfl, hK _ _ ?_ trivial rfl⟩
            show StJ _ _ _ _ _ _ _ _ _ _ _ _ _ _ _ _ ((listed.setIfInBounds 5 true).getD 5 false) ((listed.setIfInBounds 5 true).getD 11 false) w2
            rw [getD_set_eq (i := 5) hls, getD_set_ne (i := 5) (j := 11) (by decide), hl11]
            rw [hos] at hA2
            exact ⟨(hFr.block _ (Array.getElem?_eq_some_iff.1 hbox).1 hbx hbb).trans hbox, hbw.trans (hFr.below hx hbw.size (fun q hq => by have := (hp.l.own.lt q hq).1; omega)), B2, d2, hp.line hFr (.inr rfl) hA2 hnew⟩
          refine ⟨?_, ?_⟩
          · -- 6: Go.Op.move (Go.Operand.tmp 6)
            intro listed a w1 hJ hls hl0 hlw hlc hF hU hsz
            have e6 : a.eval (.tmp 6) = _ := hU 6 (by kernel_rfl)
            rw [if_pos (by rfl)]
            intro K hK
            clear hF hU hsz
            obtain ⟨q1, q2, q3⟩ := eval_rest a
            generalize hρ : a.eval = ρ
            rw [hρ] at q1 q2 q3 e6
            clear hρ
            have u1 := OpUp_value Try.prog K
            have u2 := OpUp_enter Try.prog K
            go_simp
            exact hK _ _ (hJ.quiet (by decide) (by decide)) trivial rfl
          refine ⟨?_, ?_⟩
          · -- 7: Go.Op.fieldAddr 37 (Go.Operand.tmp 8) 1
            intro listed a w1 hJ hls hl0 hlw hlc hF hU hsz
            have e8 : a.eval (.tmp 8) = _ := hU 8 (by kernel_rfl)
            rw [if_pos (by rfl)]
            intro K hK
            clear hF hU hsz
            obtain ⟨q1, q2, q3⟩ := eval_rest a
            generalize hρ : a.eval = ρ
            rw [hρ] at q1 q2 q3 e8
            clear hρ
            have u1 := OpUp_value Try.prog K
            have u2 := OpUp_enter Try.prog K
            go_simp
            exact hK _ _ (hJ.quiet (by decide) (by decide)) trivial rfl
          refine ⟨?_, ?_⟩
          · -- 8: Go.Op.load 3 (Go.Operand.tmp 55)
            intro listed a w1 hJ hls hl0 hlw hlc hF hU hsz
            have e55 : a.eval (.tmp 55) = _ := hF 7 _ _ rfl rfl (by kernel_rfl)
            rw [if_pos (by rfl)]
            intro K hK
            clear hF hU hsz
            have hbc := Lib.cell_of_heap hJ.box 1
            obtain ⟨q1, q2, q3⟩ := eval_rest a
            generalize hρ : a.eval = ρ
            rw [hρ] at q1 q2 q3 e55
            clear hρ
            have u1 := OpUp_value Try.prog K
            have u2 := OpUp_enter Try.prog K
            go_simp
            exact hK _ _ (hJ.quiet (by decide) (by decide)) trivial rfl
          refine ⟨?_, ?_⟩
          · -- 9: Go.Op.fieldAddr 37 (Go.Operand.tmp 8) 2
            intro listed a w1 hJ hls hl0 hlw hlc hF hU hsz
            have e8 : a.eval (.tmp 8) = _ := hU 8 (by kernel_rfl)
            rw [if_pos (by rfl)]
            intro K hK
            clear hF hU hsz
            obtain ⟨q1, q2, q3⟩ := eval_rest a
            generalize hρ : a.eval = ρ
            rw [hρ] at q1 q2 q3 e8
            clear hρ
            have u1 := OpUp_value Try.prog K
            have u2 := OpUp_enter Try.prog K
            go_simp
            exact hK _ _ (hJ.quiet (by decide) (by decide)) trivial rfl
          refine ⟨?_, ?_⟩
          · -- 10: Go.Op.load 25 (Go.Operand.tmp 57)
            intro listed a w1 hJ hls hl0 hlw hlc hF hU hsz
            have e57 : a.eval (.tmp 57) = _ := hF 9 _ _ rfl rfl (by kernel_rfl)
            rw [if_pos (by rfl)]
            intro K hK
            clear hF hU hsz
            have hbc := Lib.cell_of_heap hJ.box 2
            obtain ⟨q1, q2, q3⟩ := eval_rest a
            generalize hρ : a.eval = ρ
            rw [hρ] at q1 q2 q3 e57
            clear hρ
            have u1 := OpUp_value Try.prog K
            have u2 := OpUp_enter Try.prog K
            go_simp
            exact hK _ _ (hJ.quiet (by decide) (by decide)) trivial rfl
          refine ⟨?_, ?_⟩
          · -- 11: Go.Op.call { callee := Go.Callee.value (Go.Operand.func 27), args := #[Go.Operan
            intro listed a w1 hJ hls hl0 hlw hlc hF hU hsz
            have e54 : a.eval (.tmp 54) = _ := hF 6 _ _ rfl rfl (by kernel_rfl)
            have e56 : a.eval (.tmp 56) = _ := hF 8 _ _ rfl rfl (by kernel_rfl)
            have e58 : a.eval (.tmp 58) = _ := hF 10 _ _ rfl rfl (by kernel_rfl)
            rw [if_pos (by rfl)]
            intro K hK
            clear hF hU hsz
            obtain ⟨q1, q2, q3⟩ := eval_rest a
            generalize hρ : a.eval = ρ
            rw [hρ] at q1 q2 q3 e54 e56 e58
            clear hρ
            have u1 := OpUp_value Try.prog K
            have u2 := OpUp_enter Try.prog K
            go_simp
            have hl0 : listed.getD 11 false = false := hl0
            have hl5 := hlw 5 (by kernel_rfl)
            rw [hl0, hl5] at hJ
            obtain ⟨hbox, hbw, B2, d2, hp⟩ := hJ
            refine (rStore_any y ss (mk os n) S O sc oc z v w1 hp.r (by rw [mk_len]; omega)).mono ?_
            rintro e w2 ⟨rfl, ⟨O2, c2, hA2, hnew⟩, hFr⟩
            rw [hbe]
            refine ⟨_, rfl, hK _ _ ?_ trivial rfl⟩
            show StJ _ _ _ _ _ _ _ _ _ _ _ _ _ _ _ _ ((listed.setIfInBounds 11 true).getD 5 false) ((listed.setIfInBounds 11 true).getD 11 false) w2
            rw [getD_set_eq (i := 11) hls, getD_set_ne (i := 11) (j := 5) (by decide), hl5]
            rw [mk_store os n z v hn, hos] at hA2
            exact ⟨(hFr.block _ (Array.getElem?_eq_some_iff.1 hbox).1 hby (fun e => by cases e)).trans hbox, hbw.trans (hFr.below hyw hbw.size (fun q hq => by cases hq)), B2, d2, O2, c2, hp.ref hFr hA2 (fun q hq => .inl hq) hnew⟩
          exact trivial
        case hend =>
          intro vs0 w1 listed hJ hl1 hl2 hH0
          obtain ⟨vs1, rfl, hH1⟩ := hH0.eq_
          obtain ⟨vs2, rfl, hH2⟩ := hH1.eq_
          obtain ⟨vs3, rfl, hH3⟩ := hH2.eq_
          obtain ⟨vs4, rfl, hH4⟩ := hH3.eq_
          obtain ⟨vs5, rfl, hH5⟩ := hH4.eq_
          obtain ⟨vs6, rfl, hH6⟩ := hH5.eq_
          obtain ⟨vs7, rfl, hH7⟩ := hH6.eq_
          obtain ⟨vs8, rfl, hH8⟩ := hH7.eq_
          obtain ⟨vs9, rfl, hH9⟩ := hH8.eq_
          obtain ⟨vs10, rfl, hH10⟩ := hH9.eq_
          obtain ⟨vs11, rfl, hH11⟩ := hH10.eq_
          obtain ⟨vs12, rfl, hH12⟩ := hH11.eq_
          obtain rfl := hH12.nil
          clear hH0 hH1 hH2 hH3 hH4 hH5 hH6 hH7 hH8 hH9 hH10 hH11 hH12
          simp only [List.take_succ_cons, List.take_zero, putAll, Act.put, List.setIfInBounds_toArray, List.set_cons_zero, List.set_cons_succ]
          rw [hl1 5 (by decide), hl1 11 (by decide)] at hJ
          obtain ⟨_, hbw, B9, d9, O9, oc9, hp⟩ := hJ
          have HP := Lib.hid hp
          have HB := Lib.hid hbw
          have hbn : (bb != bb) = false := by cases bb <;> rfl
          clear hbw hp hl1 hl2
          obtain ⟨ss9, rfl⟩ : ∃ q, q = ss := ⟨_, rfl⟩
          obtain ⟨n9, rfl⟩ : ∃ q, q = n := ⟨_, rfl⟩
          obtain ⟨S9, rfl⟩ : ∃ q, q = S := ⟨_, rfl⟩
          obtain ⟨sc9, rfl⟩ : ∃ q, q = sc := ⟨_, rfl⟩
          have HL8 := Lib.hid HP.out.l.len
          have hc0 := HP.out.r.c0
          have hylt := HP.out.r.lt
          have hnn : ((os9.length : Int) != (os9.length : Int)) = false := by simp
          go_wp2_with fail
          apply wp_region_last 99 (Eqs _ :: Eqs _ :: Eqs _ :: Eqs _ :: Eqs _ :: Eqs _ :: Eqs _ :: (RdUs ss9) :: Eqs _ :: Eqs _ :: Eqs _ :: Eqs _ :: Eqs _ :: Eqs _ :: []) rfl (by kernel_rfl) (by rfl) (stab_cons (stab_eq _) (stab_cons (stab_eq _) (stab_cons (stab_eq _) (stab_cons (stab_eq _) (stab_cons (stab_eq _) (stab_cons (stab_eq _) (stab_cons (stab_eq _) (stab_cons stab_rdU (stab_cons (stab_eq _) (stab_cons (stab_eq _) (stab_cons (stab_eq _) (stab_cons (stab_eq _) (stab_cons (stab_eq _) (stab_cons (stab_eq _) stab_nil)))))))))))))) (by kernel_rfl) (by kernel_rfl) (by kernel_rfl)
          case hstep =>
            simp only [List.dropLast_cons_cons, List.dropLast_singleton]
            refine StepsOK.cons ?_ ?_
            · -- 0: Go.Op.move (Go.Operand.tmp 5)
              intro a w1 hR1 hF hU hsz
              have e5 : a.eval (.tmp 5) = _ := hU 5 (by kernel_rfl)
              rw [if_pos (by rfl)]
              intro K hK
              clear hF hU hsz
              obtain ⟨q1, q2, q3⟩ := eval_rest a
              generalize hρ : a.eval = ρ
              rw [hρ] at q1 q2 q3 e5
              clear hρ
              have u1 := OpUp_value Try.prog K
              have u2 := OpUp_enter Try.prog K
              go_simp
              exact hK _ _ (Stood.refl _) rfl
            refine StepsOK.cons ?_ ?_
            · -- 1: Go.Op.call { callee := Go.Callee.value (Go.Operand.func 21), args := #[Go.Operan
              intro a w1 hR1 hF hU hsz
              have e73 : a.eval (.tmp 73) = _ := hF 0 _ _ rfl rfl (by kernel_rfl)
              rw [if_pos (by rfl)]
              intro K hK
              clear hF hU hsz
              obtain ⟨q1, q2, q3⟩ := eval_rest a
              generalize hρ : a.eval = ρ
              rw [hρ] at q1 q2 q3 e73
              clear hρ
              have u1 := OpUp_value Try.prog K
              have u2 := OpUp_enter Try.prog K
              go_simp
              refine (lOpen_any x ss9 os9 B9 d9 n9 w1 (HP.out.below (Stood.cur hR1)).l).mono ?_
              rintro e w' ⟨rfl, rfl⟩
              exact ⟨_, rfl, hK _ _ (Stood.refl _) rfl⟩
            refine StepsOK.cons ?_ ?_
            · -- 2: Go.Op.move (Go.Operand.tmp 6)
              intro a w1 hR1 hF hU hsz
              have e6 : a.eval (.tmp 6) = _ := hU 6 (by kernel_rfl)
              rw [if_pos (by rfl)]
              intro K hK
              clear hF hU hsz
              obtain ⟨q1, q2, q3⟩ := eval_rest a
              generalize hρ : a.eval = ρ
              rw [hρ] at q1 q2 q3 e6
              clear hρ
              have u1 := OpUp_value Try.prog K
              have u2 := OpUp_enter Try.prog K
              go_simp
              exact hK _ _ (Stood.refl _) rfl
            refine StepsOK.cons ?_ ?_
            · -- 3: Go.Op.call { callee := Go.Callee.value (Go.Operand.func 31), args := #[Go.Operan
              intro a w1 hR1 hF hU hsz
              have e75 : a.eval (.tmp 75) = _ := hF 2 _ _ rfl rfl (by kernel_rfl)
              rw [if_pos (by rfl)]
              intro K hK
              clear hF hU hsz
              obtain ⟨q1, q2, q3⟩ := eval_rest a
              generalize hρ : a.eval = ρ
              rw [hρ] at q1 q2 q3 e75
              clear hρ
              have u1 := OpUp_value Try.prog K
              have u2 := OpUp_enter Try.prog K
              go_simp
              refine (rOpen_any y ss9 (mk os9 n9) S9 O9 sc9 oc9 w1 (HP.out.below (Stood.cur hR1)).r).mono ?_
              rintro e w' ⟨rfl, rfl⟩
              rw [mk_len]
              exact ⟨_, rfl, hK _ _ (Stood.refl _) rfl⟩
            refine StepsOK.cons ?_ ?_
            · -- 4: Go.Op.binOp Go.BinOp.neq 3 (Go.Operand.tmp 74) (Go.Operand.tmp 76) 3
              intro a w1 hR1 hF hU hsz
              have e74 : a.eval (.tmp 74) = _ := hF 1 _ _ rfl rfl (by kernel_rfl)
              have e76 : a.eval (.tmp 76) = _ := hF 3 _ _ rfl rfl (by kernel_rfl)
              rw [if_pos (by rfl)]
              intro K hK
              clear hF hU hsz
              obtain ⟨q1, q2, q3⟩ := eval_rest a
              generalize hρ : a.eval = ρ
              rw [hρ] at q1 q2 q3 e74 e76
              clear hρ
              have u1 := OpUp_value Try.prog K
              have u2 := OpUp_enter Try.prog K
              go_simp
              exact hK _ _ (Stood.refl _) rfl
            refine StepsOK.cons ?_ ?_
            · -- 5: Go.Op.move (Go.Operand.tmp 77)
              intro a w1 hR1 hF hU hsz
              have e77 : a.eval (.tmp 77) = _ := hF 4 _ _ rfl rfl (by kernel_rfl)
              rw [if_pos (by rfl)]
              intro K hK
              clear hF hU hsz
              obtain ⟨q1, q2, q3⟩ := eval_rest a
              generalize hρ : a.eval = ρ
              rw [hρ] at q1 q2 q3 e77
              clear hρ
              have u1 := OpUp_value Try.prog K
              have u2 := OpUp_enter Try.prog K
              go_simp
              exact hK _ _ (Stood.refl _) rfl
            refine StepsOK.cons ?_ ?_
            · -- 6: Go.Op.move (Go.Operand.tmp 5)
              intro a w1 hR1 hF hU hsz
              have e5 : a.eval (.tmp 5) = _ := hU 5 (by kernel_rfl)
              have e78 : a.eval (.tmp 78) = _ := hF 5 _ _ rfl rfl (by kernel_rfl)
              rw [wanted_guard (ops := _) rfl rfl rfl e78, if_pos (by rfl)]
              intro K hK
              clear hF hU hsz
              obtain ⟨q1, q2, q3⟩ := eval_rest a
              generalize hρ : a.eval = ρ
              rw [hρ] at q1 q2 q3 e5 e78
              clear hρ
              have u1 := OpUp_value Try.prog K
              have u2 := OpUp_enter Try.prog K
              go_simp
              exact hK _ _ (Stood.refl _) rfl
            refine StepsOK.cons ?_ ?_
            · -- 7: Go.Op.call { callee := Go.Callee.value (Go.Operand.func 22), args := #[Go.Operan
              intro a w1 hR1 hF hU hsz
              have e79 : a.eval (.tmp 79) = _ := hF 6 _ _ rfl rfl (by kernel_rfl)
              have e78 : a.eval (.tmp 78) = _ := hF 5 _ _ rfl rfl (by kernel_rfl)
              rw [wanted_guard (ops := _) rfl rfl rfl e78, if_pos (by rfl)]
              intro K hK
              clear hF hU hsz
              obtain ⟨q1, q2, q3⟩ := eval_rest a
              generalize hρ : a.eval = ρ
              rw [hρ] at q1 q2 q3 e78 e79
              clear hρ
              have u1 := OpUp_value Try.prog K
              have u2 := OpUp_enter Try.prog K
              go_simp
              refine (lSure_any x ss9 os9 B9 d9 n9 w1 (HP.out.below (Stood.cur hR1)).l).mono ?_
              rintro e w' ⟨⟨A9, c9, rfl, ho⟩, hb⟩
              exact ⟨_, rfl, hK _ _ hb ⟨A9, c9, by rw [HL8.out], ho.rd, by rw [HL8.out]; unfold maxLen; omega⟩⟩
            refine StepsOK.cons ?_ ?_
            · -- 8: Go.Op.move (Go.Operand.tmp 6)
              intro a w1 hR1 hF hU hsz
              have e6 : a.eval (.tmp 6) = _ := hU 6 (by kernel_rfl)
              have e78 : a.eval (.tmp 78) = _ := hF 5 _ _ rfl rfl (by kernel_rfl)
              rw [wanted_guard (ops := _) rfl rfl rfl e78, if_pos (by rfl)]
              intro K hK
              clear hF hU hsz
              obtain ⟨q1, q2, q3⟩ := eval_rest a
              generalize hρ : a.eval = ρ
              rw [hρ] at q1 q2 q3 e6 e78
              clear hρ
              have u1 := OpUp_value Try.prog K
              have u2 := OpUp_enter Try.prog K
              go_simp
              exact hK _ _ (Stood.refl _) rfl
            refine StepsOK.cons ?_ ?_
            · -- 9: Go.Op.nilCheck (Go.Operand.tmp 81)
              intro a w1 hR1 hF hU hsz
              have e81 : a.eval (.tmp 81) = _ := hF 8 _ _ rfl rfl (by kernel_rfl)
              have e78 : a.eval (.tmp 78) = _ := hF 5 _ _ rfl rfl (by kernel_rfl)
              rw [wanted_guard (ops := _) rfl rfl rfl e78, if_pos (by rfl)]
              intro K hK
              clear hF hU hsz
              obtain ⟨q1, q2, q3⟩ := eval_rest a
              generalize hρ : a.eval = ρ
              rw [hρ] at q1 q2 q3 e78 e81
              clear hρ
              have u1 := OpUp_value Try.prog K
              have u2 := OpUp_enter Try.prog K
              go_simp
              exact hK _ _ (Stood.refl _) rfl
            refine StepsOK.cons ?_ ?_
            · -- 10: Go.Op.fieldAddr 40 (Go.Operand.tmp 82) 0
              intro a w1 hR1 hF hU hsz
              have e82 : a.eval (.tmp 82) = _ := hF 9 _ _ rfl rfl (by kernel_rfl)
              have e78 : a.eval (.tmp 78) = _ := hF 5 _ _ rfl rfl (by kernel_rfl)
              rw [wanted_guard (ops := _) rfl rfl rfl e78, if_pos (by rfl)]
              intro K hK
              clear hF hU hsz
              obtain ⟨q1, q2, q3⟩ := eval_rest a
              generalize hρ : a.eval = ρ
              rw [hρ] at q1 q2 q3 e78 e82
              clear hρ
              have u1 := OpUp_value Try.prog K
              have u2 := OpUp_enter Try.prog K
              go_simp
              exact hK _ _ (Stood.refl _) rfl
            refine StepsOK.cons ?_ ?_
            · -- 11: Go.Op.load 28 (Go.Operand.tmp 83)
              intro a w1 hR1 hF hU hsz
              have e83 : a.eval (.tmp 83) = _ := hF 10 _ _ rfl rfl (by kernel_rfl)
              have e78 : a.eval (.tmp 78) = _ := hF 5 _ _ rfl rfl (by kernel_rfl)
              rw [wanted_guard (ops := _) rfl rfl rfl e78, if_pos (by rfl)]
              intro K hK
              clear hF hU hsz
              have hy0 := ((Stood.cur hR1).cell (p := ⟨y, 0, none⟩) hylt).trans hc0
              obtain ⟨q1, q2, q3⟩ := eval_rest a
              generalize hρ : a.eval = ρ
              rw [hρ] at q1 q2 q3 e78 e83
              clear hρ
              have u1 := OpUp_value Try.prog K
              have u2 := OpUp_enter Try.prog K
              go_simp
              exact hK _ _ (Stood.refl _) rfl
            refine StepsOK.cons ?_ ?_
            · -- 12: Go.Op.call { callee := Go.Callee.value (Go.Operand.func 25), args := #[Go.Operan
              intro a w1 hR1 hF hU hsz
              have e80 := hF 7 _ _ rfl rfl (by kernel_rfl)
              obtain ⟨B80, d80, e80, r80, l80⟩ := e80
              have e80 : a.eval (.tmp 80) = _ := e80
              have e84 : a.eval (.tmp 84) = _ := hF 11 _ _ rfl rfl (by kernel_rfl)
              have e78 : a.eval (.tmp 78) = _ := hF 5 _ _ rfl rfl (by kernel_rfl)
              rw [wanted_guard (ops := _) rfl rfl rfl e78, if_pos (by rfl)]
              intro K hK
              clear hF hU hsz
              obtain ⟨q1, q2, q3⟩ := eval_rest a
              generalize hρ : a.eval = ρ
              rw [hρ] at q1 q2 q3 e78 e80 e84
              clear hρ
              have u1 := OpUp_value Try.prog K
              have u2 := OpUp_enter Try.prog K
              go_simp
              have KM := same3_any ss9 ss9 B80 S9 d80 sc9 w1 r80 (HP.out.below (Stood.cur hR1)).r.sure l80 l80
              rw [beq_self_eq_true, HL8.out] at KM
              simp only [HL8.out]
              refine KM.mono ?_
              rintro e w' ⟨rfl, hd⟩
              exact ⟨_, rfl, hK _ _ (hd.below _) rfl⟩
            refine StepsOK.cons ?_ ?_
            · -- 13: Go.Op.unOp Go.UnOp.not 4 (Go.Operand.tmp 85)
              intro a w1 hR1 hF hU hsz
              have e85 : a.eval (.tmp 85) = _ := hF 12 _ _ rfl rfl (by kernel_rfl)
              have e78 : a.eval (.tmp 78) = _ := hF 5 _ _ rfl rfl (by kernel_rfl)
              rw [wanted_guard (ops := _) rfl rfl rfl e78, if_pos (by rfl)]
              intro K hK
              clear hF hU hsz
              obtain ⟨q1, q2, q3⟩ := eval_rest a
              generalize hρ : a.eval = ρ
              rw [hρ] at q1 q2 q3 e78 e85
              clear hρ
              have u1 := OpUp_value Try.prog K
              have u2 := OpUp_enter Try.prog K
              go_simp
              exact hK _ _ (Stood.refl _) rfl
            exact StepsOK.nil
          case hend =>
            intro vs0 w1 hR1 hH0
            obtain ⟨vs1, rfl, hH1⟩ := hH0.eq_
            obtain ⟨vs2, rfl, hH2⟩ := hH1.eq_
            obtain ⟨vs3, rfl, hH3⟩ := hH2.eq_
            obtain ⟨vs4, rfl, hH4⟩ := hH3.eq_
            obtain ⟨vs5, rfl, hH5⟩ := hH4.eq_
            obtain ⟨vs6, rfl, hH6⟩ := hH5.eq_
            obtain ⟨vs7, rfl, hH7⟩ := hH6.eq_
            obtain ⟨v7, vs8, rfl, hv7, hH8⟩ := hH7.cons
            obtain ⟨vs9, rfl, hH9⟩ := hH8.eq_
            obtain ⟨vs10, rfl, hH10⟩ := hH9.eq_
            obtain ⟨vs11, rfl, hH11⟩ := hH10.eq_
            obtain ⟨vs12, rfl, hH12⟩ := hH11.eq_
            obtain ⟨vs13, rfl, hH13⟩ := hH12.eq_
            obtain ⟨vs14, rfl, hH14⟩ := hH13.eq_
            obtain rfl := hH14.nil
            clear hH0 hH1 hH2 hH3 hH4 hH5 hH6 hH7 hH8 hH9 hH10 hH11 hH12 hH13 hH14
            simp only [List.dropLast_cons_cons, List.dropLast_singleton, putAll, Act.put, List.setIfInBounds_toArray, List.set_cons_zero, List.set_cons_succ]
            have HP1 := Lib.hid (HP.out.below (Stood.cur hR1))
            have HB1 := Lib.hid (HB.out.trans ((Stood.cur hR1).mono HB.out.size))
            clear hc0 hylt HP HB
            go_wp2
            go_loopw [9] (fun i wr2 => ∃ j : Nat, j ≤ 10 ∧ i = .int .i64 ((j : Int) - 1) ∧ Pair wr2 x y ss9 os9 B9 d9 n9 ss9 (mk os9 n9) S9 sc9 O9 oc9 ∧ Below w.heap.size w wr2) (fun i _ => 10 - (intOf i + 1).toNat)
            case atStart => exact ⟨0, by omega, rfl, HP1.out, HB1.out⟩
            case round =>
              clear HP1 HB1
              obtain ⟨j, hj, rfl, hp, hb⟩ := hrel
              have HP2 := Lib.hid hp
              have HB2 := Lib.hid hb
              clear hp hb
              by_cases hlt9 : j < 10
              · have e1 : IntKind.i64.wrap ((j : Int) - 1 + 1) = (j : Int) := by rw [IntWalk.i64_in _ (by omega)]; omega
                have hlt2 : (j : Int) - 1 < 9 := by omega
                go_wp2_with fail
                refine (lLoad_any x ss9 os9 B9 d9 n9 ((j : Int) - 1) _ HP2.out.l (by omega)).mono ?_
                rintro e w3 ⟨rfl, hb3⟩
                have HP3 := Lib.hid (HP2.out.below hb3)
                have HB3 := Lib.hid (HB2.out.trans (hb3.mono HB2.out.size))
                clear hb3 HP2 HB2
                go_wp2_with fail
                refine (rLoad_any y ss9 os9 n9 S9 O9 sc9 oc9 ((j : Int) - 1) _ HP3.out.r (by omega)).mono ?_
                rintro e w4 ⟨rfl, rfl⟩
                generalize newest ss9 os9 ((j : Int) - 1) = nv
                go_wp2
                go_roundw
                case rel => exact ⟨j + 1, by omega, by go_num, HP3.out, HB3.out⟩
                case measure => simp [intOf]; omega
              · obtain rfl : j = 10 := by omega
                go_wp2
                go_roundw
                case rel => exact ⟨k + 1, by omega, by go_num, ss9, os9, B9, d9, n9, S9, sc9, O9, oc9, HP2.out, hn9, hol9, HV9.out, HB2.out⟩
                case measure => simp [intOf]; omega
      have hz0b : (z0 == 0) = false := by simpa using hz0
      by_cases hz1 : z0 = 1
      · subst hz1
        go_wp2_with fail
        have hba : Below wr.heap.size wr (wr.alloc (.cells #[.int .i64 1, .int .i64 z, U v] 37)) := (Below.refl _ _).alloc (Nat.le_refl _) _
        have HPA := Lib.hid (HP0.out.below hba)
        have HBA := Lib.hid (HB0.out.alloc HB0.out.size (.cells #[.int .i64 1, .int .i64 z, U v] 37))
        have hbh := heap_alloc_new wr (.cells #[.int .i64 1, .int .i64 z, U v] 37)
        have hbx : wr.heap.size ≠ x := by have := HP0.out.l.lt; omega
        have hby : wr.heap.size ≠ y := by have := HP0.out.r.lt; omega
        have hbb : blk B ≠ some wr.heap.size := fun e => by have := (HP0.out.l.own.lt _ e).2; omega
        have hwb : w.heap.size ≤ wr.heap.size := HB0.out.size
        have HBH := Lib.hid hbh
        clear hba hbh
        generalize hwA : wr.alloc (.cells #[.int .i64 1, .int .i64 z, U v] 37) = wA at *
        clear HP0 HB0 hwA
        refine (lFlush_any x ss os B d n wA HPA.out.l).mono ?_
        rintro e w2 ⟨rfl, hA2, hF2⟩
        have HPB := Lib.hid (HPA.out.line (n' := os.length) hF2 (.inr rfl) hA2 (fun q hq => .inl hq))
        have HBB := Lib.hid (HBA.out.trans (hF2.below hx HBA.out.size (fun q hq => by have := (HPA.out.l.own.lt q hq).1; omega)))
        clear hA2 hF2 HPA HBA
        go_wp2_with fail
        refine (rFlush_any y ss os n S O sc oc w2 HPB.out.r (by omega)).mono ?_
        rintro e w9 ⟨rfl, ⟨O9, oc9, hR9, hnew⟩, hF9⟩
        have HP := Lib.hid (HPB.out.ref hF9 hR9 (fun q hq => .inl hq) (fun q hq => .inr (hnew q hq)))
        have HB := Lib.hid (HBB.out.trans (hF9.below hyw HBB.out.size (fun q hq => by cases hq)))
        clear hR9 hnew hF9 HPB HBB
        have HV9 := Lib.hid HV.out
        have hol9 : os.length ≤ k + 1 := by omega
        obtain ⟨ss9, rfl⟩ : ∃ q, q = ss := ⟨_, rfl⟩
        obtain ⟨os9, hos9⟩ : ∃ q, q = os := ⟨_, rfl⟩
        obtain ⟨n9, hn99⟩ : ∃ q, q = os.length := ⟨_, rfl⟩
        obtain ⟨B9, rfl⟩ : ∃ q, q = B := ⟨_, rfl⟩
        obtain ⟨d9, rfl⟩ : ∃ q, q = d := ⟨_, rfl⟩
        obtain ⟨S9, rfl⟩ : ∃ q, q = S := ⟨_, rfl⟩
        obtain ⟨sc9, rfl⟩ : ∃ q, q = sc := ⟨_, rfl⟩
        have hn9 : n9 ≤ os9.length := by rw [hn99, hos9]; exact Nat.le_refl _
        rw [← hn99] at HP
        rw [← hos9] at HP hol9 HV9
        clear hn99 hos9
        have HL8 := Lib.hid HP.out.l.len
        have hc0 := HP.out.r.c0
        have hylt := HP.out.r.lt
        have hnn : ((os9.length : Int) != (os9.length : Int)) = false := by simp
        go_wp2_with fail
        apply wp_region_last 99 (Eqs _ :: Eqs _ :: Eqs _ :: Eqs _ :: Eqs _ :: Eqs _ :: Eqs _ :: (RdUs ss9) :: Eqs _ :: Eqs _ :: Eqs _ :: Eqs _ :: Eqs _ :: Eqs _ :: []) rfl (by kernel_rfl) (by rfl) (stab_cons (stab_eq _) (stab_cons (stab_eq _) (stab_cons (stab_eq _) (stab_cons (stab_eq _) (stab_cons (stab_eq _) (stab_cons (stab_eq _) (stab_cons (stab_eq _) (stab_cons stab_rdU (stab_cons (stab_eq _) (stab_cons (stab_eq _) (stab_cons (stab_eq _) (stab_cons (stab_eq _) (stab_cons (stab_eq _) (stab_cons (stab_eq _) stab_nil)))))))))))))) (by kernel_rfl) (by kernel_rfl) (by kernel_rfl)
        case hstep =>
          simp only [List.dropLast_cons_cons, List.dropLast_singleton]
          refine StepsOK.cons ?_ ?_
          · -- 0: Go.Op.move (Go.Operand.tmp 5)
            intro a w1 hR1 hF hU hsz
            have e5 : a.eval (.tmp 5) = _ := hU 5 (by kernel_rfl)
            rw [if_pos (by rfl)]
            intro K hK
            clear hF hU hsz
            obtain ⟨q1, q2, q3⟩ := eval_rest a
            generalize hρ : a.eval = ρ
            rw [hρ] at q1 q2 q3 e5
            clear hρ
            have u1 := OpUp_value Try.prog K
            have u2 := OpUp_enter Try.prog K
            go_simp
            exact hK _ _ (Stood.refl _) rfl
          refine StepsOK.cons ?_ ?_
          · -- 1: Go.Op.call { callee := Go.Callee.value (Go.Operand.func 21), args := #[Go.Operan
            intro a w1 hR1 hF hU hsz
            have e73 : a.eval (.tmp 73) = _ := hF 0 _ _ rfl rfl (by kernel_rfl)
            rw [if_pos (by rfl)]
            intro K hK
            clear hF hU hsz
            obtain ⟨q1, q2, q3⟩ := eval_rest a
            generalize hρ : a.eval = ρ
            rw [hρ] at q1 q2 q3 e73
            clear hρ
            have u1 := OpUp_value Try.prog K
            have u2 := OpUp_enter Try.prog K
            go_simp
            refine (lOpen_any x ss9 os9 B9 d9 n9 w1 (HP.out.below (Stood.cur hR1)).l).mono ?_
            rintro e w' ⟨rfl, rfl⟩
            exact ⟨_, rfl, hK _ _ (Stood.refl _) rfl⟩
          refine StepsOK.cons ?_ ?_
          · -- 2: Go.Op.move (Go.Operand.tmp 6)
            intro a w1 hR1 hF hU hsz
            have e6 : a.eval (.tmp 6) = _ := hU 6 (by kernel_rfl)
            rw [if_pos (by rfl)]
            intro K hK
            clear hF hU hsz
            obtain ⟨q1, q2, q3⟩ := eval_rest a
            generalize hρ : a.eval = ρ
            rw [hρ] at q1 q2 q3 e6
            clear hρ
            have u1 := OpUp_value Try.prog K
            have u2 := OpUp_enter Try.prog K
            go_simp
            exact hK _ _ (Stood.refl _) rfl
          refine StepsOK.cons ?_ ?_
          · -- 3: Go.Op.call { callee := Go.Callee.value (Go.Operand.func 31), args := #[Go.Operan
            intro a w1 hR1 hF hU hsz
            have e75 : a.eval (.tmp 75) = _ := hF 2 _ _ rfl rfl (by kernel_rfl)
            rw [if_pos (by rfl)]
            intro K hK
            clear hF hU hsz
            obtain ⟨q1, q2, q3⟩ := eval_rest a
            generalize hρ : a.eval = ρ
            rw [hρ] at q1 q2 q3 e75
            clear hρ
            have u1 := OpUp_value Try.prog K
            have u2 := OpUp_enter Try.prog K
            go_simp
            refine (rOpen_any y ss9 (mk os9 n9) S9 O9 sc9 oc9 w1 (HP.out.below (Stood.cur hR1)).r).mono ?_
            rintro e w' ⟨rfl, rfl⟩
            rw [mk_len]
            exact ⟨_, rfl, hK _ _ (Stood.refl _) rfl⟩
          refine StepsOK.cons ?_ ?_
          · -- 4: Go.Op.binOp Go.BinOp.neq 3 (Go.Operand.tmp 74) (Go.Operand.tmp 76) 3
            intro a w1 hR1 hF hU hsz
            have e74 : a.eval (.tmp 74) = _ := hF 1 _ _ rfl rfl (by kernel_rfl)
            have e76 : a.eval (.tmp 76) = _ := hF 3 _ _ rfl rfl (by kernel_rfl)
            rw [if_pos (by rfl)]
            intro K hK
            clear hF hU hsz
            obtain ⟨q1, q2, q3⟩ := eval_rest a
            generalize hρ : a.eval = ρ
            rw [hρ] at q1 q2 q3 e74 e76
            clear hρ
            have u1 := OpUp_value Try.prog K
            have u2 := OpUp_enter Try.prog K
            go_simp
            exact hK _ _ (Stood.refl _) rfl
          refine StepsOK.cons ?_ ?_
          · -- 5: Go.Op.move (Go.Operand.tmp 77)
            intro a w1 hR1 hF hU hsz
            have e77 : a.eval (.tmp 77) = _ := hF 4 _ _ rfl rfl (by kernel_rfl)
            rw [if_pos (by rfl)]
            intro K hK
            clear hF hU hsz
            obtain ⟨q1, q2, q3⟩ := eval_rest a
            generalize hρ : a.eval = ρ
            rw [hρ] at q1 q2 q3 e77
            clear hρ
            have u1 := OpUp_value Try.prog K
            have u2 := OpUp_enter Try.prog K
            go_simp
            exact hK _ _ (Stood.refl _) rfl
          refine StepsOK.cons ?_ ?_
          · -- 6: Go.Op.move (Go.Operand.tmp 5)
            intro a w1 hR1 hF hU hsz
            have e5 : a.eval (.tmp 5) = _ := hU 5 (by kernel_rfl)
            have e78 : a.eval (.tmp 78) = _ := hF 5 _ _ rfl rfl (by kernel_rfl)
            rw [wanted_guard (ops := _) rfl rfl rfl e78, if_pos (by rfl)]
            intro K hK
            clear hF hU hsz
            obtain ⟨q1, q2, q3⟩ := eval_rest a
            generalize hρ : a.eval = ρ
            rw [hρ] at q1 q2 q3 e5 e78
            clear hρ
            have u1 := OpUp_value Try.prog K
            have u2 := OpUp_enter Try.prog K
            go_simp
            exact hK _ _ (Stood.refl _) rfl
          refine StepsOK.cons ?_ ?_
          · -- 7: Go.Op.call { callee := Go.Callee.value (Go.Operand.func 22), args := #[Go.Operan
            intro a w1 hR1 hF hU hsz
            have e79 : a.eval (.tmp 79) = _ := hF 6 _ _ rfl rfl (by kernel_rfl)
            have e78 : a.eval (.tmp 78) = _ := hF 5 _ _ rfl rfl (by kernel_rfl)
            rw [wanted_guard (ops := _) rfl rfl rfl e78, if_pos (by rfl)]
            intro K hK
            clear hF hU hsz
            obtain ⟨q1, q2, q3⟩ := eval_rest a
            generalize hρ : a.eval = ρ
            rw [hρ] at q1 q2 q3 e78 e79
            clear hρ
            have u1 := OpUp_value Try.prog K
            have u2 := OpUp_enter Try.prog K
            go_simp
            refine (lSure_any x ss9 os9 B9 d9 n9 w1 (HP.out.below (Stood.cur hR1)).l).mono ?_
            rintro e w' ⟨⟨A9, c9, rfl, ho⟩, hb⟩
            exact ⟨_, rfl, hK _ _ hb ⟨A9, c9, by rw [HL8.out], ho.rd, by rw [HL8.out]; unfold maxLen; omega⟩⟩
          refine StepsOK.cons ?_ ?_
          · -- 8: Go.Op.move (Go.Operand.tmp 6)
            intro a w1 hR1 hF hU hsz
            have e6 : a.eval (.tmp 6) = _ := hU 6 (by kernel_rfl)
            have e78 : a.eval (.tmp 78) = _ := hF 5 _ _ rfl rfl (by kernel_rfl)
            rw [wanted_guard (ops := _) rfl rfl rfl e78, if_pos (by rfl)]
            intro K hK
            clear hF hU hsz
            obtain ⟨q1, q2, q3⟩ := eval_rest a
            generalize hρ : a.eval = ρ
            rw [hρ] at q1 q2 q3 e6 e78
            clear hρ
            have u1 := OpUp_value Try.prog K
            have u2 := OpUp_enter Try.prog K
            go_simp
            exact hK _ _ (Stood.refl _) rfl
          refine StepsOK.cons ?_ ?_
          · -- 9: Go.Op.nilCheck (Go.Operand.tmp 81)
            intro a w1 hR1 hF hU hsz
            have e81 : a.eval (.tmp 81) = _ := hF 8 _ _ rfl rfl (by kernel_rfl)
            have e78 : a.eval (.tmp 78) = _ := hF 5 _ _ rfl rfl (by kernel_rfl)
            rw [wanted_guard (ops := _) rfl rfl rfl e78, if_pos (by rfl)]
            intro K hK
            clear hF hU hsz
            obtain ⟨q1, q2, q3⟩ := eval_rest a
            generalize hρ : a.eval = ρ
            rw [hρ] at q1 q2 q3 e78 e81
            clear hρ
            have u1 := OpUp_value Try.prog K
            have u2 := OpUp_enter Try.prog K
            go_simp
            exact hK _ _ (Stood.refl _) rfl
          refine StepsOK.cons ?_ ?_
          · -- 10: Go.Op.fieldAddr 40 (Go.Operand.tmp 82) 0
            intro a w1 hR1 hF hU hsz
            have e82 : a.eval (.tmp 82) = _ := hF 9 _ _ rfl rfl (by kernel_rfl)
            have e78 : a.eval (.tmp 78) = _ := hF 5 _ _ rfl rfl (by kernel_rfl)
            rw [wanted_guard (ops := _) rfl rfl rfl e78, if_pos (by rfl)]
            intro K hK
            clear hF hU hsz
            obtain ⟨q1, q2, q3⟩ := eval_rest a
            generalize hρ : a.eval = ρ
            rw [hρ] at q1 q2 q3 e78 e82
            clear hρ
            have u1 := OpUp_value Try.prog K
            have u2 := OpUp_enter Try.prog K
            go_simp
            exact hK _ _ (Stood.refl _) rfl
          refine StepsOK.cons ?_ ?_
          · -- 11: Go.Op.load 28 (Go.Operand.tmp 83)
            intro a w1 hR1 hF hU hsz
            have e83 : a.eval (.tmp 83) = _ := hF 10 _ _ rfl rfl (by kernel_rfl)
            have e78 : a.eval (.tmp 78) = _ := hF 5 _ _ rfl rfl (by kernel_rfl)
            rw [wanted_guard (ops := _) rfl rfl rfl e78, if_pos (by rfl)]
            intro K hK
            clear hF hU hsz
            have hy0 := ((Stood.cur hR1).cell (p := ⟨y, 0, none⟩) hylt).trans hc0
            obtain ⟨q1, q2, q3⟩ := eval_rest a
            generalize hρ : a.eval = ρ
            rw [hρ] at q1 q2 q3 e78 e83
            clear hρ
            have u1 := OpUp_value Try.prog K
            have u2 := OpUp_enter Try.prog K
            go_simp
            exact hK _ _ (Stood.refl _) rfl
          refine StepsOK.cons ?_ ?_
          · -- 12: Go.Op.call { callee := Go.Callee.value (Go.Operand.func 25), args := #[Go.Operan
            intro a w1 hR1 hF hU hsz
            have e80 := hF 7 _ _ rfl rfl (by kernel_rfl)
            obtain ⟨B80, d80, e80, r80, l80⟩ := e80
            have e80 : a.eval (.tmp 80) = _ := e80
            have e84 : a.eval (.tmp 84) = _ := hF 11 _ _ rfl rfl (by kernel_rfl)
            have e78 : a.eval (.tmp 78) = _ := hF 5 _ _ rfl rfl (by kernel_rfl)
            rw [wanted_guard (ops := _) rfl rfl rfl e78, if_pos (by rfl)]
            intro K hK
            clear hF hU hsz
            obtain ⟨q1, q2, q3⟩ := eval_rest a
            generalize hρ : a.eval = ρ
            rw [hρ] at q1 q2 q3 e78 e80 e84
            clear hρ
            have u1 := OpUp_value Try.prog K
            have u2 := OpUp_enter Try.prog K
            go_simp
            have KM := same3_any ss9 ss9 B80 S9 d80 sc9 w1 r80 (HP.out.below (Stood.cur hR1)).r.sure l80 l80
            rw [beq_self_eq_true, HL8.out] at KM
            simp only [HL8.out]
            refine KM.mono ?_
            rintro e w' ⟨rfl, hd⟩
            exact ⟨_, rfl, hK _ _ (hd.below _) rfl⟩
          refine StepsOK.cons ?_ ?_
          · -- 13: Go.Op.unOp Go.UnOp.not 4 (Go.Operand.tmp 85)
            intro a w1 hR1 hF hU hsz
            have e85 : a.eval (.tmp 85) = _ := hF 12 _ _ rfl rfl (by kernel_rfl)
            have e78 : a.eval (.tmp 78) = _ := hF 5 _ _ rfl rfl (by kernel_rfl)
            rw [wanted_guard (ops := _) rfl rfl rfl e78, if_pos (by rfl)]
            intro K hK
            clear hF hU hsz
            obtain ⟨q1, q2, q3⟩ := eval_rest a
            generalize hρ : a.eval = ρ
            rw [hρ] at q1 q2 q3 e78 e85
            clear hρ
            have u1 := OpUp_value Try.prog K
            have u2 := OpUp_enter Try.prog K
            go_simp
            exact hK _ _ (Stood.refl _) rfl
          exact StepsOK.nil
        case hend =>
          intro vs0 w1 hR1 hH0
          obtain ⟨vs1, rfl, hH1⟩ := hH0.eq_
          obtain ⟨vs2, rfl, hH2⟩ := hH1.eq_
          obtain ⟨vs3, rfl, hH3⟩ := hH2.eq_
          obtain ⟨vs4, rfl, hH4⟩ := hH3.eq_
          obtain ⟨vs5, rfl, hH5⟩ := hH4.eq_
          obtain ⟨vs6, rfl, hH6⟩ := hH5.eq_
          obtain ⟨vs7, rfl, hH7⟩ := hH6.eq_
          obtain ⟨v7, vs8, rfl, hv7, hH8⟩ := hH7.cons
          obtain ⟨vs9, rfl, hH9⟩ := hH8.eq_
          obtain ⟨vs10, rfl, hH10⟩ := hH9.eq_
          obtain ⟨vs11, rfl, hH11⟩ := hH10.eq_
          obtain ⟨vs12, rfl, hH12⟩ := hH11.eq_
          obtain ⟨vs13, rfl, hH13⟩ := hH12.eq_
          obtain ⟨vs14, rfl, hH14⟩ := hH13.eq_
          obtain rfl := hH14.nil
          clear hH0 hH1 hH2 hH3 hH4 hH5 hH6 hH7 hH8 hH9 hH10 hH11 hH12 hH13 hH14
          simp only [List.dropLast_cons_cons, List.dropLast_singleton, putAll, Act.put, List.setIfInBounds_toArray, List.set_cons_zero, List.set_cons_succ]
          have HP1 := Lib.hid (HP.out.below (Stood.cur hR1))
          have HB1 := Lib.hid (HB.out.trans ((Stood.cur hR1).mono HB.out.size))
          clear hc0 hylt HP HB
          go_wp2
          go_loopw [9] (fun i wr2 => ∃ j : Nat, j ≤ 10 ∧ i = .int .i64 ((j : Int) - 1) ∧ Pair wr2 x y ss9 os9 B9 d9 n9 ss9 (mk os9 n9) S9 sc9 O9 oc9 ∧ Below w.heap.size w wr2) (fun i _ => 10 - (intOf i + 1).toNat)
          case atStart => exact ⟨0, by omega, rfl, HP1.out, HB1.out⟩
          case round =>
            clear HP1 HB1
            obtain ⟨j, hj, rfl, hp, hb⟩ := hrel
            have HP2 := Lib.hid hp
            have HB2 := Lib.hid hb
            clear hp hb
            by_cases hlt9 : j < 10
            · have e1 : IntKind.i64.wrap ((j : Int) - 1 + 1) = (j : Int) := by rw [IntWalk.i64_in _ (by omega)]; omega
              have hlt2 : (j : Int) - 1 < 9 := by omega
              go_wp2_with fail
              refine (lLoad_any x ss9 os9 B9 d9 n9 ((j : Int) - 1) _ HP2.out.l (by omega)).mono ?_
              rintro e w3 ⟨rfl, hb3⟩
              have HP3 := Lib.hid (HP2.out.below hb3)
              have HB3 := Lib.hid (HB2.out.trans (hb3.mono HB2.out.size))
              clear hb3 HP2 HB2
              go_wp2_with fail
              refine (rLoad_any y ss9 os9 n9 S9 O9 sc9 oc9 ((j : Int) - 1) _ HP3.out.r (by omega)).mono ?_
              rintro e w4 ⟨rfl, rfl⟩
              generalize newest ss9 os9 ((j : Int) - 1) = nv
              go_wp2
              go_roundw
              case rel => exact ⟨j + 1, by omega, by go_num, HP3.out, HB3.out⟩
              case measure => simp [intOf]; omega
            · obtain rfl : j = 10 := by omega
              go_wp2
              go_roundw
              case rel => exact ⟨k + 1, by omega, by go_num, ss9, os9, B9, d9, n9, S9, sc9, O9, oc9, HP2.out, hn9, hol9, HV9.out, HB2.out⟩
              case measure => simp [intOf]; omega
      have hz1b : (z0 == 1) = false := by simpa using hz1
      by_cases hz2 : z0 = 2
      · subst hz2
        go_wp2_with fail
        have hba : Below wr.heap.size wr (wr.alloc (.cells #[.int .i64 2, .int .i64 z, U v] 37)) := (Below.refl _ _).alloc (Nat.le_refl _) _
        have HPA := Lib.hid (HP0.out.below hba)
        have HBA := Lib.hid (HB0.out.alloc HB0.out.size (.cells #[.int .i64 2, .int .i64 z, U v] 37))
        have hbh := heap_alloc_new wr (.cells #[.int .i64 2, .int .i64 z, U v] 37)
        have hbx : wr.heap.size ≠ x := by have := HP0.out.l.lt; omega
        have hby : wr.heap.size ≠ y := by have := HP0.out.r.lt; omega
        have hbb : blk B ≠ some wr.heap.size := fun e => by have := (HP0.out.l.own.lt _ e).2; omega
        have hwb : w.heap.size ≤ wr.heap.size := HB0.out.size
        have HBH := Lib.hid hbh
        clear hba hbh
        generalize hwA : wr.alloc (.cells #[.int .i64 2, .int .i64 z, U v] 37) = wA at *
        clear HP0 HB0 hwA
        refine (lFence_any x ss os B d n wA HPA.out.l hn (by omega) HV.out).mono ?_
        rintro e w2 ⟨rfl, ⟨B9, d9, hA2, hnew2⟩, hF2⟩
        have HPB := Lib.hid (HPA.out.line (n' := 0) hF2 (.inl rfl) hA2 (fun q hq => .inr (hnew2 q hq)))
        have HBB := Lib.hid (HBA.out.trans (hF2.below hx HBA.out.size (fun q hq => by cases hq)))
        clear hA2 hF2 hnew2 HPA HBA
        go_wp2_with fail
        refine (rFence_any y ss os n S O sc oc w2 HPB.out.r hn (by omega) HV.out).mono ?_
        rintro e w9 ⟨rfl, ⟨S9, sc9, O9, oc9, hR9, hnewS, hnewO⟩, hF9⟩
        have HP := Lib.hid (HPB.out.ref hF9 hR9 (fun q hq => .inr (hnewS q hq)) (fun q hq => .inl (hnewO q hq)))
        have HB := Lib.hid (HBB.out.trans (hF9.below hyw HBB.out.size (fun q hq => by cases hq)))
        clear hR9 hnewS hnewO hF9 HPB HBB
        have HV9 := Lib.hid (show okS (os.drop n) from fun s hs => HV.out s (List.mem_of_mem_drop hs))
        have hol9 : (os.drop n).length ≤ k + 1 := by rw [List.length_drop]; omega
        generalize os.drop n = os9 at *
        generalize doW ss (os.take n) = ss9 at *
        obtain ⟨n9, hn99⟩ : ∃ q : Nat, q = 0 := ⟨_, rfl⟩
        have hn9 : n9 ≤ os9.length := by omega
        rw [← hn99] at HP
        clear hn99
        have HL8 := Lib.hid HP.out.l.len
        have hc0 := HP.out.r.c0
        have hylt := HP.out.r.lt
        have hnn : ((os9.length : Int) != (os9.length : Int)) = false := by simp
        go_wp2_with fail
        apply wp_region_last 99 (Eqs _ :: Eqs _ :: Eqs _ :: Eqs _ :: Eqs _ :: Eqs _ :: Eqs _ :: (RdUs ss9) :: Eqs _ :: Eqs _ :: Eqs _ :: Eqs _ :: Eqs _ :: Eqs _ :: []) rfl (by kernel_rfl) (by rfl) (stab_cons (stab_eq _) (stab_cons (stab_eq _) (stab_cons (stab_eq _) (stab_cons (stab_eq _) (stab_cons (stab_eq _) (stab_cons (stab_eq _) (stab_cons (stab_eq _) (stab_cons stab_rdU (stab_cons (stab_eq _) (stab_cons (stab_eq _) (stab_cons (stab_eq _) (stab_cons (stab_eq _) (stab_cons (stab_eq _) (stab_cons (stab_eq _) stab_nil)))))))))))))) (by kernel_rfl) (by kernel_rfl) (by kernel_rfl)
        case hstep =>
          simp only [List.dropLast_cons_cons, List.dropLast_singleton]
          refine StepsOK.cons ?_ ?_
          · -- 0: Go.Op.move (Go.Operand.tmp 5)
            intro a w1 hR1 hF hU hsz
            have e5 : a.eval (.tmp 5) = _ := hU 5 (by kernel_rfl)
            rw [if_pos (by rfl)]
            intro K hK
            clear hF hU hsz
            obtain ⟨q1, q2, q3⟩ := eval_rest a
            generalize hρ : a.eval = ρ
            rw [hρ] at q1 q2 q3 e5
            clear hρ
            have u1 := OpUp_value Try.prog K
            have u2 := OpUp_enter Try.prog K
            go_simp
            exact hK _ _ (Stood.refl _) rfl
          refine StepsOK.cons ?_ ?_
          · -- 1: Go.Op.call { callee := Go.Callee.value (Go.Operand.func 21), args := #[Go.Operan
            intro a w1 hR1 hF hU hsz
            have e73 : a.eval (.tmp 73) = _ := hF 0 _ _ rfl rfl (by kernel_rfl)
            rw [if_pos (by rfl)]
            intro K hK
            clear hF hU hsz
            obtain ⟨q1, q2, q3⟩ := eval_rest a
            generalize hρ : a.eval = ρ
            rw [hρ] at q1 q2 q3 e73
            clear hρ
            have u1 := OpUp_value Try.prog K
            have u2 := OpUp_enter Try.prog K
            go_simp
            refine (lOpen_any x ss9 os9 B9 d9 n9 w1 (HP.out.below (Stood.cur hR1)).l).mono ?_
            rintro e w' ⟨rfl, rfl⟩
            exact ⟨_, rfl, hK _ _ (Stood.refl _) rfl⟩
          refine StepsOK.cons ?_ ?_
          · -- 2: Go.Op.move (Go.Operand.tmp 6)
            intro a w1 hR1 hF hU hsz
            have e6 : a.eval (.tmp 6) = _ := hU 6 (by kernel_rfl)
            rw [if_pos (by rfl)]
            intro K hK
            clear hF hU hsz
            obtain ⟨q1, q2, q3⟩ := eval_rest a
            generalize hρ : a.eval = ρ
            rw [hρ] at q1 q2 q3 e6
            clear hρ
            have u1 := OpUp_value Try.prog K
            have u2 := OpUp_enter Try.prog K
            go_simp
            exact hK _ _ (Stood.refl _) rfl
          refine StepsOK.cons ?_ ?_
          · -- 3: Go.Op.call { callee := Go.Callee.value (Go.Operand.func 31), args := #[Go.Operan
            intro a w1 hR1 hF hU hsz
            have e75 : a.eval (.tmp 75) = _ := hF 2 _ _ rfl rfl (by kernel_rfl)
            rw [if_pos (by rfl)]
            intro K hK
            clear hF hU hsz
            obtain ⟨q1, q2, q3⟩ := eval_rest a
            generalize hρ : a.eval = ρ
            rw [hρ] at q1 q2 q3 e75
            clear hρ
            have u1 := OpUp_value Try.prog K
            have u2 := OpUp_enter Try.prog K
            go_simp
            refine (rOpen_any y ss9 (mk os9 n9) S9 O9 sc9 oc9 w1 (HP.out.below (Stood.cur hR1)).r).mono ?_
            rintro e w' ⟨rfl, rfl⟩
            rw [mk_len]
            exact ⟨_, rfl, hK _ _ (Stood.refl _) rfl⟩
          refine StepsOK.cons ?_ ?_
          · -- 4: Go.Op.binOp Go.BinOp.neq 3 (Go.Operand.tmp 74) (Go.Operand.tmp 76) 3
            intro a w1 hR1 hF hU hsz
            have e74 : a.eval (.tmp 74) = _ := hF 1 _ _ rfl rfl (by kernel_rfl)
            have e76 : a.eval (.tmp 76) = _ := hF 3 _ _ rfl rfl (by kernel_rfl)
            rw [if_pos (by rfl)]
            intro K hK
            clear hF hU hsz
            obtain ⟨q1, q2, q3⟩ := eval_rest a
            generalize hρ : a.eval = ρ
            rw [hρ] at q1 q2 q3 e74 e76
            clear hρ
            have u1 := OpUp_value Try.prog K
            have u2 := OpUp_enter Try.prog K
            go_simp
            exact hK _ _ (Stood.refl _) rfl
          refine StepsOK.cons ?_ ?_
          · -- 5: Go.Op.move (Go.Operand.tmp 77)
            intro a w1 hR1 hF hU hsz
            have e77 : a.eval (.tmp 77) = _ := hF 4 _ _ rfl rfl (by kernel_rfl)
            rw [if_pos (by rfl)]
            intro K hK
            clear hF hU hsz
            obtain ⟨q1, q2, q3⟩ := eval_rest a
            generalize hρ : a.eval = ρ
            rw [hρ] at q1 q2 q3 e77
            clear hρ
            have u1 := OpUp_value Try.prog K
            have u2 := OpUp_enter Try.prog K
            go_simp
            exact hK _ _ (Stood.refl _) rfl
          refine StepsOK.cons ?_ ?_
          · -- 6: Go.Op.move (Go.Operand.tmp 5)
            intro a w1 hR1 hF hU hsz
            have e5 : a.eval (.tmp 5) = _ := hU 5 (by kernel_rfl)
            have e78 : a.eval (.tmp 78) = _ := hF 5 _ _ rfl rfl (by kernel_rfl)
            rw [wanted_guard (ops := _) rfl rfl rfl e78, if_pos (by rfl)]
            intro K hK
            clear hF hU hsz
            obtain ⟨q1, q2, q3⟩ := eval_rest a
            generalize hρ : a.eval = ρ
            rw [hρ] at q1 q2 q3 e5 e78
            clear hρ
            have u1 := OpUp_value Try.prog K
            have u2 := OpUp_enter Try.prog K
            go_simp
            exact hK _ _ (Stood.refl _) rfl
          refine StepsOK.cons ?_ ?_
          · -- 7: Go.Op.call { callee := Go.Callee.value (Go.Operand.func 22), args := #[Go.Operan
            intro a w1 hR1 hF hU hsz
            have e79 : a.eval (.tmp 79) = _ := hF 6 _ _ rfl rfl (by kernel_rfl)
            have e78 : a.eval (.tmp 78) = _ := hF 5 _ _ rfl rfl (by kernel_rfl)
            rw [wanted_guard (ops := _) rfl rfl rfl e78, if_pos (by rfl)]
            intro K hK
            clear hF hU hsz
            obtain ⟨q1, q2, q3⟩ := eval_rest a
            generalize hρ : a.eval = ρ
            rw [hρ] at q1 q2 q3 e78 e79
            clear hρ
            have u1 := OpUp_value Try.prog K
            have u2 := OpUp_enter Try.prog K
            go_simp
            refine (lSure_any x ss9 os9 B9 d9 n9 w1 (HP.out.below (Stood.cur hR1)).l).mono ?_
            rintro e w' ⟨⟨A9, c9, rfl, ho⟩, hb⟩
            exact ⟨_, rfl, hK _ _ hb ⟨A9, c9, by rw [HL8.out], ho.rd, by rw [HL8.out]; unfold maxLen; omega⟩⟩
          refine StepsOK.cons ?_ ?_
          · -- 8: Go.Op.move (Go.Operand.tmp 6)
            intro a w1 hR1 hF hU hsz
            have e6 : a.eval (.tmp 6) = _ := hU 6 (by kernel_rfl)
            have e78 : a.eval (.tmp 78) = _ := hF 5 _ _ rfl rfl (by kernel_rfl)
            rw [wanted_guard (ops := _) rfl rfl rfl e78, if_pos (by rfl)]
            intro K hK
            clear hF hU hsz
            obtain ⟨q1, q2, q3⟩ := eval_rest a
            generalize hρ : a.eval = ρ
            rw [hρ] at q1 q2 q3 e6 e78
            clear hρ
            have u1 := OpUp_value Try.prog K
            have u2 := OpUp_enter Try.prog K
            go_simp
            exact hK _ _ (Stood.refl _) rfl
          refine StepsOK.cons ?_ ?_
          · -- 9: Go.Op.nilCheck (Go.Operand.tmp 81)
            intro a w1 hR1 hF hU hsz
            have e81 : a.eval (.tmp 81) = _ := hF 8 _ _ rfl rfl (by kernel_rfl)
            have e78 : a.eval (.tmp 78) = _ := hF 5 _ _ rfl rfl (by kernel_rfl)
            rw [wanted_guard (ops := _) rfl rfl rfl e78, if_pos (by rfl)]
            intro K hK
            clear hF hU hsz
            obtain ⟨q1, q2, q3⟩ := eval_rest a
            generalize hρ : a.eval = ρ
            rw [hρ] at q1 q2 q3 e78 e81
            clear hρ
            have u1 := OpUp_value Try.prog K
            have u2 := OpUp_enter Try.prog K
            go_simp
            exact hK _ _ (Stood.refl _) rfl
          refine StepsOK.cons ?_ ?_
          · -- 10: Go.Op.fieldAddr 40 (Go.Operand.tmp 82) 0
            intro a w1 hR1 hF hU hsz
            have e82 : a.eval (.tmp 82) = _ := hF 9 _ _ rfl rfl (by kernel_rfl)
            have e78 : a.eval (.tmp 78) = _ := hF 5 _ _ rfl rfl (by kernel_rfl)
            rw [wanted_guard (ops := _) rfl rfl rfl e78, if_pos (by rfl)]
            intro K hK
            clear hF hU hsz
            obtain ⟨q1, q2, q3⟩ := eval_rest a
            generalize hρ : a.eval = ρ
            rw [hρ] at q1 q2 q3 e78 e82
            clear hρ
            have u1 := OpUp_value Try.prog K
            have u2 := OpUp_enter Try.prog K
            go_simp
            exact hK _ _ (Stood.refl _) rfl
          refine StepsOK.cons ?_ ?_
          · -- 11: Go.Op.load 28 (Go.Operand.tmp 83)
            intro a w1 hR1 hF hU hsz
            have e83 : a.eval (.tmp 83) = _ := hF 10 _ _ rfl rfl (by kernel_rfl)
            have e78 : a.eval (.tmp 78) = _ := hF 5 _ _ rfl rfl (by kernel_rfl)
            rw [wanted_guard (ops := _) rfl rfl rfl e78, if_pos (by rfl)]
            intro K hK
            clear hF hU hsz
            have hy0 := ((Stood.cur hR1).cell (p := ⟨y, 0, none⟩) hylt).trans hc0
            obtain ⟨q1, q2, q3⟩ := eval_rest a
            generalize hρ : a.eval = ρ
            rw [hρ] at q1 q2 q3 e78 e83
            clear hρ
            have u1 := OpUp_value Try.prog K
            have u2 := OpUp_enter Try.prog K
            go_simp
            exact hK _ _ (Stood.refl _) rfl
          refine StepsOK.cons ?_ ?_
          · -- 12: Go.Op.call { callee := Go.Callee.value (Go.Operand.func 25), args := #[Go.Operan
            intro a w1 hR1 hF hU hsz
            have e80 := hF 7 _ _ rfl rfl (by kernel_rfl)
            obtain ⟨B80, d80, e80, r80, l80⟩ := e80
            have e80 : a.eval (.tmp 80) = _ := e80
            have e84 : a.eval (.tmp 84) = _ := hF 11 _ _ rfl rfl (by kernel_rfl)
            have e78 : a.eval (.tmp 78) = _ := hF 5 _ _ rfl rfl (by kernel_rfl)
            rw [wanted_guard (ops := _) rfl rfl rfl e78, if_pos (by rfl)]
            intro K hK
            clear hF hU hsz
            obtain ⟨q1, q2, q3⟩ := eval_rest a
            generalize hρ : a.eval = ρ
            rw [hρ] at q1 q2 q3 e78 e80 e84
            clear hρ
            have u1 := OpUp_value Try.prog K
            have u2 := OpUp_enter Try.prog K
            go_simp
            have KM := same3_any ss9 ss9 B80 S9 d80 sc9 w1 r80 (HP.out.below (Stood.cur hR1)).r.sure l80 l80
            rw [beq_self_eq_true, HL8.out] at KM
            simp only [HL8.out]
            refine KM.mono ?_
            rintro e w' ⟨rfl, hd⟩
            exact ⟨_, rfl, hK _ _ (hd.below _) rfl⟩
          refine StepsOK.cons ?_ ?_
          · -- 13: Go.Op.unOp Go.UnOp.not 4 (Go.Operand.tmp 85)
            intro a w1 hR1 hF hU hsz
            have e85 : a.eval (.tmp 85) = _ := hF 12 _ _ rfl rfl (by kernel_rfl)
            have e78 : a.eval (.tmp 78) = _ := hF 5 _ _ rfl rfl (by kernel_rfl)
            rw [wanted_guard (ops := _) rfl rfl rfl e78, if_pos (by rfl)]
            intro K hK
            clear hF hU hsz
            obtain ⟨q1, q2, q3⟩ := eval_rest a
            generalize hρ : a.eval = ρ
            rw [hρ] at q1 q2 q3 e78 e85
            clear hρ
            have u1 := OpUp_value Try.prog K
            have u2 := OpUp_enter Try.prog K
            go_simp
            exact hK _ _ (Stood.refl _) rfl
          exact StepsOK.nil
        case hend =>
          intro vs0 w1 hR1 hH0
          obtain ⟨vs1, rfl, hH1⟩ := hH0.eq_
          obtain ⟨vs2, rfl, hH2⟩ := hH1.eq_
          obtain ⟨vs3, rfl, hH3⟩ := hH2.eq_
          obtain ⟨vs4, rfl, hH4⟩ := hH3.eq_
          obtain ⟨vs5, rfl, hH5⟩ := hH4.eq_
          obtain ⟨vs6, rfl, hH6⟩ := hH5.eq_
          obtain ⟨vs7, rfl, hH7⟩ := hH6.eq_
          obtain ⟨v7, vs8, rfl, hv7, hH8⟩ := hH7.cons
          obtain ⟨vs9, rfl, hH9⟩ := hH8.eq_
          obtain ⟨vs10, rfl, hH10⟩ := hH9.eq_
          obtain ⟨vs11, rfl, hH11⟩ := hH10.eq_
          obtain ⟨vs12, rfl, hH12⟩ := hH11.eq_
          obtain ⟨vs13, rfl, hH13⟩ := hH12.eq_
          obtain ⟨vs14, rfl, hH14⟩ := hH13.eq_
          obtain rfl := hH14.nil
          clear hH0 hH1 hH2 hH3 hH4 hH5 hH6 hH7 hH8 hH9 hH10 hH11 hH12 hH13 hH14
          simp only [List.dropLast_cons_cons, List.dropLast_singleton, putAll, Act.put, List.setIfInBounds_toArray, List.set_cons_zero, List.set_cons_succ]
          have HP1 := Lib.hid (HP.out.below (Stood.cur hR1))
          have HB1 := Lib.hid (HB.out.trans ((Stood.cur hR1).mono HB.out.size))
          clear hc0 hylt HP HB
          go_wp2
          go_loopw [9] (fun i wr2 => ∃ j : Nat, j ≤ 10 ∧ i = .int .i64 ((j : Int) - 1) ∧ Pair wr2 x y ss9 os9 B9 d9 n9 ss9 (mk os9 n9) S9 sc9 O9 oc9 ∧ Below w.heap.size w wr2) (fun i _ => 10 - (intOf i + 1).toNat)
          case atStart => exact ⟨0, by omega, rfl, HP1.out, HB1.out⟩
          case round =>
            clear HP1 HB1
            obtain ⟨j, hj, rfl, hp, hb⟩ := hrel
            have HP2 := Lib.hid hp
            have HB2 := Lib.hid hb
            clear hp hb
            by_cases hlt9 : j < 10
            · have e1 : IntKind.i64.wrap ((j : Int) - 1 + 1) = (j : Int) := by rw [IntWalk.i64_in _ (by omega)]; omega
              have hlt2 : (j : Int) - 1 < 9 := by omega
              go_wp2_with fail
              refine (lLoad_any x ss9 os9 B9 d9 n9 ((j : Int) - 1) _ HP2.out.l (by omega)).mono ?_
              rintro e w3 ⟨rfl, hb3⟩
              have HP3 := Lib.hid (HP2.out.below hb3)
              have HB3 := Lib.hid (HB2.out.trans (hb3.mono HB2.out.size))
              clear hb3 HP2 HB2
              go_wp2_with fail
              refine (rLoad_any y ss9 os9 n9 S9 O9 sc9 oc9 ((j : Int) - 1) _ HP3.out.r (by omega)).mono ?_
              rintro e w4 ⟨rfl, rfl⟩
              generalize newest ss9 os9 ((j : Int) - 1) = nv
              go_wp2
              go_roundw
              case rel => exact ⟨j + 1, by omega, by go_num, HP3.out, HB3.out⟩
              case measure => simp [intOf]; omega
            · obtain rfl : j = 10 := by omega
              go_wp2
              go_roundw
              case rel => exact ⟨k + 1, by omega, by go_num, ss9, os9, B9, d9, n9, S9, sc9, O9, oc9, HP2.out, hn9, hol9, HV9.out, HB2.out⟩
              case measure => simp [intOf]; omega
      have hz2b : (z0 == 2) = false := by simpa using hz2
      go_wp2_with fail
      have hba : Below wr.heap.size wr (wr.alloc (.cells #[.int .i64 z0, .int .i64 z, U v] 37)) := (Below.refl _ _).alloc (Nat.le_refl _) _
      have HPA := Lib.hid (HP0.out.below hba)
      have HBA := Lib.hid (HB0.out.alloc HB0.out.size (.cells #[.int .i64 z0, .int .i64 z, U v] 37))
      have hbh := heap_alloc_new wr (.cells #[.int .i64 z0, .int .i64 z, U v] 37)
      have hbx : wr.heap.size ≠ x := by have := HP0.out.l.lt; omega
      have hby : wr.heap.size ≠ y := by have := HP0.out.r.lt; omega
      have hbb : blk B ≠ some wr.heap.size := fun e => by have := (HP0.out.l.own.lt _ e).2; omega
      have hwb : w.heap.size ≤ wr.heap.size := HB0.out.size
      have HBH := Lib.hid hbh
      clear hba hbh
      generalize hwA : wr.alloc (.cells #[.int .i64 z0, .int .i64 z, U v] 37) = wA at *
      clear HP0 HB0 hwA
      have hb1 := Lib.cell_of_heap HBH.out 1
      refine (lFall_any x ss os B d n z wA HPA.out.l (by omega) HV.out).mono ?_
      rintro e w2 ⟨rfl, hA2, hF2⟩
      rw [fall_take] at hA2
      have HPB := Lib.hid (HPA.out.line (n' := 0) hF2 (.inl rfl) hA2 (fun q hq => by cases hq))
      have HBB := Lib.hid (HBA.out.trans (hF2.below hx HBA.out.size (fun q hq => by cases hq)))
      have hb2 := Lib.cell_of_heap ((hF2.block _ (Array.getElem?_eq_some_iff.1 HBH.out).1 hbx (fun e => by cases e)).trans HBH.out) 1
      clear hA2 hF2 HPA HBA hb1
      go_wp2_with fail
      refine (rFall_any y ss os n S O sc oc z w2 HPB.out.r (by omega) HV.out).mono ?_
      rintro e w9 ⟨rfl, ⟨S9, sc9, hR9, hnewS⟩, hF9⟩
      have HP := Lib.hid (show Pair w9 x y (doW ss (os.take z.toNat)) [] none 0 0 (doW ss (os.take z.toNat)) (mk [] 0) S9 sc9 none 0 from HPB.out.ref hF9 hR9 (fun q hq => .inr (hnewS q hq)) (fun q hq => by cases hq))
      have HB := Lib.hid (HBB.out.trans (hF9.below hyw HBB.out.size (fun q hq => by cases hq)))
      clear hR9 hnewS hF9 HPB HBB hb2
      have HV9 := Lib.hid (show okS [] from fun s hs => by cases hs)
      generalize doW ss (os.take z.toNat) = ss9 at *
      obtain ⟨os9, ho99⟩ : ∃ q : List St, q = [] := ⟨_, rfl⟩
      obtain ⟨n9, hn99⟩ : ∃ q : Nat, q = 0 := ⟨_, rfl⟩
      obtain ⟨d9, hd99⟩ : ∃ q : Nat, q = 0 := ⟨_, rfl⟩
      obtain ⟨oc9, hoc99⟩ : ∃ q : Nat, q = 0 := ⟨_, rfl⟩
      obtain ⟨B9, hB99⟩ : ∃ q : Option Addr, q = none := ⟨_, rfl⟩
      obtain ⟨O9, hO99⟩ : ∃ q : Option Addr, q = none := ⟨_, rfl⟩
      have HP := Lib.hid (show Pair w9 x y ss9 os9 B9 d9 n9 ss9 (mk os9 n9) S9 sc9 O9 oc9 by rw [ho99, hn99, hd99, hoc99, hB99, hO99]; exact HP.out)
      have hn9 : n9 ≤ os9.length := by omega
      have hol9 : os9.length ≤ k + 1 := by rw [ho99]; exact Nat.zero_le _
      have HV9 := Lib.hid (show okS os9 by rw [ho99]; exact HV9.out)
      clear hB99 hO99 ho99 hn99 hd99 hoc99
      have HL8 := Lib.hid HP.out.l.len
      have hc0 := HP.out.r.c0
      have hylt := HP.out.r.lt
      have hnn : ((os9.length : Int) != (os9.length : Int)) = false := by simp
      go_wp2_with fail
      apply wp_region_last 99 (Eqs _ :: Eqs _ :: Eqs _ :: Eqs _ :: Eqs _ :: Eqs _ :: Eqs _ :: (RdUs ss9) :: Eqs _ :: Eqs _ :: Eqs _ :: Eqs _ :: Eqs _ :: Eqs _ :: []) rfl (by kernel_rfl) (by rfl) (stab_cons (stab_eq _) (stab_cons (stab_eq _) (stab_cons (stab_eq _) (stab_cons (stab_eq _) (stab_cons (stab_eq _) (stab_cons (stab_eq _) (stab_cons (stab_eq _) (stab_cons stab_rdU (stab_cons (stab_eq _) (stab_cons (stab_eq _) (stab_cons (stab_eq _) (stab_cons (stab_eq _) (stab_cons (stab_eq _) (stab_cons (stab_eq _) stab_nil)))))))))))))) (by kernel_rfl) (by kernel_rfl) (by kernel_rfl)
      case hstep =>
        simp only [List.dropLast_cons_cons, List.dropLast_singleton]
        refine StepsOK.cons ?_ ?_
        · -- 0: Go.Op.move (Go.Operand.tmp 5)
          intro a w1 hR1 hF hU hsz
          have e5 : a.eval (.tmp 5) = _ := hU 5 (by kernel_rfl)
          rw [if_pos (by rfl)]
          intro K hK
          clear hF hU hsz
          obtain ⟨q1, q2, q3⟩ := eval_rest a
          generalize hρ : a.eval = ρ
          rw [hρ] at q1 q2 q3 e5
          clear hρ
          have u1 := OpUp_value Try.prog K
          have u2 := OpUp_enter Try.prog K
          go_simp
          exact hK _ _ (Stood.refl _) rfl
        refine StepsOK.cons ?_ ?_
        · -- 1: Go.Op.call { callee := Go.Callee.value (Go.Operand.func 21), args := #[Go.Operan
          intro a w1 hR1 hF hU hsz
          have e73 : a.eval (.tmp 73) = _ := hF 0 _ _ rfl rfl (by kernel_rfl)
          rw [if_pos (by rfl)]
          intro K hK
          clear hF hU hsz
          obtain ⟨q1, q2, q3⟩ := eval_rest a
          generalize hρ : a.eval = ρ
          rw [hρ] at q1 q2 q3 e73
          clear hρ
          have u1 := OpUp_value Try.prog K
          have u2 := OpUp_enter Try.prog K
          go_simp
          refine (lOpen_any x ss9 os9 B9 d9 n9 w1 (HP.out.below (Stood.cur hR1)).l).mono ?_
          rintro e w' ⟨rfl, rfl⟩
          exact ⟨_, rfl, hK _ _ (Stood.refl _) rfl⟩
        refine StepsOK.cons ?_ ?_
        · -- 2: Go.Op.move (Go.Operand.tmp 6)
          intro a w1 hR1 hF hU hsz
          have e6 : a.eval (.tmp 6) = _ := hU 6 (by kernel_rfl)
          rw [if_pos (by rfl)]
          intro K hK
          clear hF hU hsz
          obtain ⟨q1, q2, q3⟩ := eval_rest a
          generalize hρ : a.eval = ρ
          rw [hρ] at q1 q2 q3 e6
          clear hρ
          have u1 := OpUp_value Try.prog K
          have u2 := OpUp_enter Try.prog K
          go_simp
          exact hK _ _ (Stood.refl _) rfl
        refine StepsOK.cons ?_ ?_
        · -- 3: Go.Op.call { callee := Go.Callee.value (Go.Operand.func 31), args := #[Go.Operan
          intro a w1 hR1 hF hU hsz
          have e75 : a.eval (.tmp 75) = _ := hF 2 _ _ rfl rfl (by kernel_rfl)
          rw [if_pos (by rfl)]
          intro K hK
          clear hF hU hsz
          obtain ⟨q1, q2, q3⟩ := eval_rest a
          generalize hρ : a.eval = ρ
          rw [hρ] at q1 q2 q3 e75
          clear hρ
          have u1 := OpUp_value Try.prog K
          have u2 := OpUp_enter Try.prog K
          go_simp
          refine (rOpen_any y ss9 (mk os9 n9) S9 O9 sc9 oc9 w1 (HP.out.below (Stood.cur hR1)).r).mono ?_
          rintro e w' ⟨rfl, rfl⟩
          rw [mk_len]
          exact ⟨_, rfl, hK _ _ (Stood.refl _) rfl⟩
        refine StepsOK.cons ?_ ?_
        · -- 4: Go.Op.binOp Go.BinOp.neq 3 (Go.Operand.tmp 74) (Go.Operand.tmp 76) 3
          intro a w1 hR1 hF hU hsz
          have e74 : a.eval (.tmp 74) = _ := hF 1 _ _ rfl rfl (by kernel_rfl)
          have e76 : a.eval (.tmp 76) = _ := hF 3 _ _ rfl rfl (by kernel_rfl)
          rw [if_pos (by rfl)]
          intro K hK
          clear hF hU hsz
          obtain ⟨q1, q2, q3⟩ := eval_rest a
          generalize hρ : a.eval = ρ
          rw [hρ] at q1 q2 q3 e74 e76
          clear hρ
          have u1 := OpUp_value Try.prog K
          have u2 := OpUp_enter Try.prog K
          go_simp
          exact hK _ _ (Stood.refl _) rfl
        refine StepsOK.cons ?_ ?_
        · -- 5: Go.Op.move (Go.Operand.tmp 77)
          intro a w1 hR1 hF hU hsz
          have e77 : a.eval (.tmp 77) = _ := hF 4 _ _ rfl rfl (by kernel_rfl)
          rw [if_pos (by rfl)]
          intro K hK
          clear hF hU hsz
          obtain ⟨q1, q2, q3⟩ := eval_rest a
          generalize hρ : a.eval = ρ
          rw [hρ] at q1 q2 q3 e77
          clear hρ
          have u1 := OpUp_value Try.prog K
          have u2 := OpUp_enter Try.prog K
          go_simp
          exact hK _ _ (Stood.refl _) rfl
        refine StepsOK.cons ?_ ?_
        · -- 6: Go.Op.move (Go.Operand.tmp 5)
          intro a w1 hR1 hF hU hsz
          have e5 : a.eval (.tmp 5) = _ := hU 5 (by kernel_rfl)
          have e78 : a.eval (.tmp 78) = _ := hF 5 _ _ rfl rfl (by kernel_rfl)
          rw [wanted_guard (ops := _) rfl rfl rfl e78, if_pos (by rfl)]
          intro K hK
          clear hF hU hsz
          obtain ⟨q1, q2, q3⟩ := eval_rest a
          generalize hρ : a.eval = ρ
          rw [hρ] at q1 q2 q3 e5 e78
          clear hρ
          have u1 := OpUp_value Try.prog K
          have u2 := OpUp_enter Try.prog K
          go_simp
          exact hK _ _ (Stood.refl _) rfl
        refine StepsOK.cons ?_ ?_
        · -- 7: Go.Op.call { callee := Go.Callee.value (Go.Operand.func 22), args := #[Go.Operan
          intro a w1 hR1 hF hU hsz
          have e79 : a.eval (.tmp 79) = _ := hF 6 _ _ rfl rfl (by kernel_rfl)
          have e78 : a.eval (.tmp 78) = _ := hF 5 _ _ rfl rfl (by kernel_rfl)
          rw [wanted_guard (ops := _) rfl rfl rfl e78, if_pos (by rfl)]
          intro K hK
          clear hF hU hsz
          obtain ⟨q1, q2, q3⟩ := eval_rest a
          generalize hρ : a.eval = ρ
          rw [hρ] at q1 q2 q3 e78 e79
          clear hρ
          have u1 := OpUp_value Try.prog K
          have u2 := OpUp_enter Try.prog K
          go_simp
          refine (lSure_any x ss9 os9 B9 d9 n9 w1 (HP.out.below (Stood.cur hR1)).l).mono ?_
          rintro e w' ⟨⟨A9, c9, rfl, ho⟩, hb⟩
          exact ⟨_, rfl, hK _ _ hb ⟨A9, c9, by rw [HL8.out], ho.rd, by rw [HL8.out]; unfold maxLen; omega⟩⟩
        refine StepsOK.cons ?_ ?_
        · -- 8: Go.Op.move (Go.Operand.tmp 6)
          intro a w1 hR1 hF hU hsz
          have e6 : a.eval (.tmp 6) = _ := hU 6 (by kernel_rfl)
          have e78 : a.eval (.tmp 78) = _ := hF 5 _ _ rfl rfl (by kernel_rfl)
          rw [wanted_guard (ops := _) rfl rfl rfl e78, if_pos (by rfl)]
          intro K hK
          clear hF hU hsz
          obtain ⟨q1, q2, q3⟩ := eval_rest a
          generalize hρ : a.eval = ρ
          rw [hρ] at q1 q2 q3 e6 e78
          clear hρ
          have u1 := OpUp_value Try.prog K
          have u2 := OpUp_enter Try.prog K
          go_simp
          exact hK _ _ (Stood.refl _) rfl
        refine StepsOK.cons ?_ ?_
        · -- 9: Go.Op.nilCheck (Go.Operand.tmp 81)
          intro a w1 hR1 hF hU hsz
          have e81 : a.eval (.tmp 81) = _ := hF 8 _ _ rfl rfl (by kernel_rfl)
          have e78 : a.eval (.tmp 78) = _ := hF 5 _ _ rfl rfl (by kernel_rfl)
          rw [wanted_guard (ops := _) rfl rfl rfl e78, if_pos (by rfl)]
          intro K hK
          clear hF hU hsz
          obtain ⟨q1, q2, q3⟩ := eval_rest a
          generalize hρ : a.eval = ρ
          rw [hρ] at q1 q2 q3 e78 e81
          clear hρ
          have u1 := OpUp_value Try.prog K
          have u2 := OpUp_enter Try.prog K
          go_simp
          exact hK _ _ (Stood.refl _) rfl
        refine StepsOK.cons ?_ ?_
        · -- 10: Go.Op.fieldAddr 40 (Go.Operand.tmp 82) 0
          intro a w1 hR1 hF hU hsz
          have e82 : a.eval (.tmp 82) = _ := hF 9 _ _ rfl rfl (by kernel_rfl)
          have e78 : a.eval (.tmp 78) = _ := hF 5 _ _ rfl rfl (by kernel_rfl)
          rw [wanted_guard (ops := _) rfl rfl rfl e78, if_pos (by rfl)]
          intro K hK
          clear hF hU hsz
          obtain ⟨q1, q2, q3⟩ := eval_rest a
          generalize hρ : a.eval = ρ
          rw [hρ] at q1 q2 q3 e78 e82
          clear hρ
          have u1 := OpUp_value Try.prog K
          have u2 := OpUp_enter Try.prog K
          go_simp
          exact hK _ _ (Stood.refl _) rfl
        refine StepsOK.cons ?_ ?_
        · -- 11: Go.Op.load 28 (Go.Operand.tmp 83)
          intro a w1 hR1 hF hU hsz
          have e83 : a.eval (.tmp 83) = _ := hF 10 _ _ rfl rfl (by kernel_rfl)
          have e78 : a.eval (.tmp 78) = _ := hF 5 _ _ rfl rfl (by kernel_rfl)
          rw [wanted_guard (ops := _) rfl rfl rfl e78, if_pos (by rfl)]
          intro K hK
          clear hF hU hsz
          have hy0 := ((Stood.cur hR1).cell (p := ⟨y, 0, none⟩) hylt).trans hc0
          obtain ⟨q1, q2, q3⟩ := eval_rest a
          generalize hρ : a.eval = ρ
          rw [hρ] at q1 q2 q3 e78 e83
          clear hρ
          have u1 := OpUp_value Try.prog K
          have u2 := OpUp_enter Try.prog K
          go_simp
          exact hK _ _ (Stood.refl _) rfl
        refine StepsOK.cons ?_ ?_
        · -- 12: Go.Op.call { callee := Go.Callee.value (Go.Operand.func 25), args := #[Go.Operan
          intro a w1 hR1 hF hU hsz
          have e80 := hF 7 _ _ rfl rfl (by kernel_rfl)
          obtain ⟨B80, d80, e80, r80, l80⟩ := e80
          have e80 : a.eval (.tmp 80) = _ := e80
          have e84 : a.eval (.tmp 84) = _ := hF 11 _ _ rfl rfl (by kernel_rfl)
          have e78 : a.eval (.tmp 78) = _ := hF 5 _ _ rfl rfl (by kernel_rfl)
          rw [wanted_guard (ops := _) rfl rfl rfl e78, if_pos (by rfl)]
          intro K hK
          clear hF hU hsz
          obtain ⟨q1, q2, q3⟩ := eval_rest a
          generalize hρ : a.eval = ρ
          rw [hρ] at q1 q2 q3 e78 e80 e84
          clear hρ
          have u1 := OpUp_value Try.prog K
          have u2 := OpUp_enter Try.prog K
          go_simp
          have KM := same3_any ss9 ss9 B80 S9 d80 sc9 w1 r80 (HP.out.below (Stood.cur hR1)).r.sure l80 l80
          rw [beq_self_eq_true, HL8.out] at KM
          simp only [HL8.out]
          refine KM.mono ?_
          rintro e w' ⟨rfl, hd⟩
          exact ⟨_, rfl, hK _ _ (hd.below _) rfl⟩
        refine StepsOK.cons ?_ ?_
        · -- 13: Go.Op.unOp Go.UnOp.not 4 (Go.Operand.tmp 85)
          intro a w1 hR1 hF hU hsz
          have e85 : a.eval (.tmp 85) = _ := hF 12 _ _ rfl rfl (by kernel_rfl)
          have e78 : a.eval (.tmp 78) = _ := hF 5 _ _ rfl rfl (by kernel_rfl)
          rw [wanted_guard (ops := _) rfl rfl rfl e78, if_pos (by rfl)]
          intro K hK
          clear hF hU hsz
          obtain ⟨q1, q2, q3⟩ := eval_rest a
          generalize hρ : a.eval = ρ
          rw [hρ] at q1 q2 q3 e78 e85
          clear hρ
          have u1 := OpUp_value Try.prog K
          have u2 := OpUp_enter Try.prog K
          go_simp
          exact hK _ _ (Stood.refl _) rfl
        exact StepsOK.nil
      case hend =>
        intro vs0 w1 hR1 hH0
        obtain ⟨vs1, rfl, hH1⟩ := hH0.eq_
        obtain ⟨vs2, rfl, hH2⟩ := hH1.eq_
        obtain ⟨vs3, rfl, hH3⟩ := hH2.eq_
        obtain ⟨vs4, rfl, hH4⟩ := hH3.eq_
        obtain ⟨vs5, rfl, hH5⟩ := hH4.eq_
        obtain ⟨vs6, rfl, hH6⟩ := hH5.eq_
        obtain ⟨vs7, rfl, hH7⟩ := hH6.eq_
        obtain ⟨v7, vs8, rfl, hv7, hH8⟩ := hH7.cons
        obtain ⟨vs9, rfl, hH9⟩ := hH8.eq_
        obtain ⟨vs10, rfl, hH10⟩ := hH9.eq_
        obtain ⟨vs11, rfl, hH11⟩ := hH10.eq_
        obtain ⟨vs12, rfl, hH12⟩ := hH11.eq_
        obtain ⟨vs13, rfl, hH13⟩ := hH12.eq_
        obtain ⟨vs14, rfl, hH14⟩ := hH13.eq_
        obtain rfl := hH14.nil
        clear hH0 hH1 hH2 hH3 hH4 hH5 hH6 hH7 hH8 hH9 hH10 hH11 hH12 hH13 hH14
        simp only [List.dropLast_cons_cons, List.dropLast_singleton, putAll, Act.put, List.setIfInBounds_toArray, List.set_cons_zero, List.set_cons_succ]
        have HP1 := Lib.hid (HP.out.below (Stood.cur hR1))
        have HB1 := Lib.hid (HB.out.trans ((Stood.cur hR1).mono HB.out.size))
        clear hc0 hylt HP HB
        go_wp2
        go_loopw [9] (fun i wr2 => ∃ j : Nat, j ≤ 10 ∧ i = .int .i64 ((j : Int) - 1) ∧ Pair wr2 x y ss9 os9 B9 d9 n9 ss9 (mk os9 n9) S9 sc9 O9 oc9 ∧ Below w.heap.size w wr2) (fun i _ => 10 - (intOf i + 1).toNat)
        case atStart => exact ⟨0, by omega, rfl, HP1.out, HB1.out⟩
        case round =>
          clear HP1 HB1
          obtain ⟨j, hj, rfl, hp, hb⟩ := hrel
          have HP2 := Lib.hid hp
          have HB2 := Lib.hid hb
          clear hp hb
          by_cases hlt9 : j < 10
          · have e1 : IntKind.i64.wrap ((j : Int) - 1 + 1) = (j : Int) := by rw [IntWalk.i64_in _ (by omega)]; omega
            have hlt2 : (j : Int) - 1 < 9 := by omega
            go_wp2_with fail
            refine (lLoad_any x ss9 os9 B9 d9 n9 ((j : Int) - 1) _ HP2.out.l (by omega)).mono ?_
            rintro e w3 ⟨rfl, hb3⟩
            have HP3 := Lib.hid (HP2.out.below hb3)
            have HB3 := Lib.hid (HB2.out.trans (hb3.mono HB2.out.size))
            clear hb3 HP2 HB2
            go_wp2_with fail
            refine (rLoad_any y ss9 os9 n9 S9 O9 sc9 oc9 ((j : Int) - 1) _ HP3.out.r (by omega)).mono ?_
            rintro e w4 ⟨rfl, rfl⟩
            generalize newest ss9 os9 ((j : Int) - 1) = nv
            go_wp2
            go_roundw
            case rel => exact ⟨j + 1, by omega, by go_num, HP3.out, HB3.out⟩
            case measure => simp [intOf]; omega
          · obtain rfl : j = 10 := by omega
            go_wp2
            go_roundw
            case rel => exact ⟨k + 1, by omega, by go_num, ss9, os9, B9, d9, n9, S9, sc9, O9, oc9, HP2.out, hn9, hol9, HV9.out, HB2.out⟩
            case measure => simp [intOf]; omega
    · obtain rfl : k = l.length := by omega
      go_wp2
      go_ret
      exact ⟨rfl, HB0.out⟩
end Go.Proofs.Ytdadplpibdjjbaa
