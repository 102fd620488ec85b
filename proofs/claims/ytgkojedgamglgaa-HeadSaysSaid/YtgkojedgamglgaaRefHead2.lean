/- The walk of the reference's GetHead. Condition: the words can be read. -/
import Derived.Test.YtgkojedgamglgaaRefHead
import Derived.BigRegion
namespace Go.Proofs.Ytgkojedgamglgaa
open Go.RowKit
set_option linter.unusedVariables false
set_option linter.unusedSimpArgs false
/-- No geometry. -/
def geoZ : Value := .agg #[.int .i64 0, .int .i64 0, .int .i64 0, .int .i64 0]
/-- What the reference's GetHead hands back. -/
def rGetV (xs : List (BitVec 64)) : Value := if headOk xs = true then .tuple #[(geoW xs).v, U (xs.getD 6 0), .bool true] else .tuple #[geoZ, U 0#64, .bool false]
theorem rGetV_bad {xs : List (BitVec 64)} (h : headOk xs = false) : rGetV xs = .tuple #[geoZ, U 0#64, .bool false] := by
  unfold rGetV
  rw [h]
  rfl
theorem headOk_eight {l : List (BitVec 64)} (h : l.length = 8) : headOk l = (headW (geoW l) (l.getD 6 0) == l) := by
  unfold headOk
  rw [decide_eq_true h]
  cases hq : (headW (geoW l) (l.getD 6 0) == l) with
  | true =>
    have hh := eq_of_beq hq
    rw [(headW_self hh h).1, decide_eq_true hh]
    rfl
  | false =>
    rw [decide_eq_false (ne_of_beq_false hq)]
    simp
theorem headOk_big {x0 x1 x2 x3 x4 x5 x6 x7 : BitVec 64} (h : 2000 < x1.toNat ∨ 2000 < x2.toNat ∨ 2000 < x3.toNat ∨ 2000 < x4.toNat) : headOk [x0, x1, x2, x3, x4, x5, x6, x7] = false := by
  cases hb : headOk [x0, x1, x2, x3, x4, x5, x6, x7] with
  | false => rfl
  | true =>
    exfalso
    unfold headOk at hb
    simp only [Bool.and_eq_true] at hb
    obtain ⟨h1, h2, h3, h4⟩ := smallW_four hb.1.2
    omega
theorem toInt_small2 {x : BitVec 64} (h : x.toNat ≤ 2000) : x.toInt = (x.toNat : Int) := by
  rw [BitVec.toInt_eq_toNat_cond]
  split <;> omega
theorem u_gt (y : BitVec 64) : BitVec.ofInt 64 2000 < y ↔ 2000 < y.toNat := by
  rw [BitVec.lt_def]
  simp
set_option maxRecDepth 100000 in
set_option maxHeartbeats 8000000 in
theorem rGet_any (xs : List (BitVec 64)) (A : Option Addr) (c : Nat) (w : World) (hr : RdU w A xs) (hc : xs.length ≤ c) (hm : c ≤ maxLen) :
    Calls Try.prog 34 #[.slice A xs.length c] w fun e w' => e = .returned (rGetV xs) ∧ Below w.heap.size w w' := by
  unfold maxLen at hm
  have HR := Lib.hid hr
  clear hr
  have HW := Lib.hid ((Below.refl w.heap.size w).alloc (Nat.le_refl _) (.cells #[.int .i64 0, .int .i64 0, .int .i64 0, .int .i64 0] 44))
  by_cases hl : xs.length = 8
  · obtain ⟨b, off, rfl, hcell⟩ := (HR.out.below HW.out).at_ (show 0 < xs.length by omega)
    obtain ⟨x0, x1, x2, x3, x4, x5, x6, x7, rfl⟩ := eight hl
    have HC := Lib.hid hcell
    clear hcell hl
    simp only [List.length_cons, List.length_nil, Nat.zero_add, Nat.reduceAdd] at hc ⊢
    have hc1 := HC.out 1 (by simp)
    have hc2 := HC.out 2 (by simp)
    have hc3 := HC.out 3 (by simp)
    have hc4 := HC.out 4 (by simp)
    have hc6 := HC.out 6 (by simp)
    simp only [List.getElem_cons_succ, List.getElem_cons_zero] at hc1 hc2 hc3 hc4 hc6
    have hbl : b < (w.alloc (.cells #[.int .i64 0, .int .i64 0, .int .i64 0, .int .i64 0] 44)).heap.size := cell_lt hc1
    have HXB := Lib.hid (show ¬ b = w.heap.size from fun e => by
      rcases HR.out with h | ⟨b', off', hA, hcc⟩
      · cases h
      · cases hA
        have h9 : b < w.heap.size := cell_lt (hcc 0 (by simp))
        omega)
    have HZ := Lib.hid (heap_alloc_new w (.cells #[.int .i64 0, .int .i64 0, .int .i64 0, .int .i64 0] 44))
    clear HC
    have HBIG := Lib.hid (fun h => rGetV_bad (headOk_big (x0 := x0) (x1 := x1) (x2 := x2) (x3 := x3) (x4 := x4) (x5 := x5) (x6 := x6) (x7 := x7) h))
    go_enter Try.func34, Try.ntmps34
    go_wp2
    go_loopw [5] (fun i wr => ∃ k : Nat, k ≤ 4 ∧ i = .int .i64 ((k : Int) + 1) ∧ Go.RowKit.Hid ((0 < k → x1.toNat ≤ 2000) ∧ (1 < k → x2.toNat ≤ 2000) ∧ (2 < k → x3.toNat ≤ 2000) ∧ (3 < k → x4.toNat ≤ 2000)) ∧ wr = w.alloc (.cells #[.int .i64 0, .int .i64 0, .int .i64 0, .int .i64 0] 44)) (fun i _ => 5 - (intOf i).toNat)
    case atStart => exact ⟨0, by omega, rfl, Lib.hid ⟨by omega, by omega, by omega, by omega⟩, rfl⟩
    case round =>
      obtain ⟨k, hk, rfl, hsm, rfl⟩ := hrel
      by_cases hk0 : k = 0
      · subst hk0
        by_cases hy : 2000 < x1.toNat
        · have hyb : BitVec.ofInt 64 2000 < x1 := (u_gt _).2 hy
          have HV := Lib.hid (HBIG.out (by omega))
          clear hyb HBIG
          have hyb : BitVec.ofInt 64 2000 < x1 := (u_gt _).2 hy
          go_wp2
          refine bodyPost_ret (v := .tuple #[geoZ, U 0#64, .bool false]) ?_ rfl ⟨by rw [HV.out], HW.out⟩
          unfold results
          rw [show Try.f34.results = #[.cell 2 44, .tmp 3, .tmp 4] from rfl]
          go_simp
          exact ⟨rfl, U_lit 0 (by omega) (by omega)⟩
        · have hyb : ¬ BitVec.ofInt 64 2000 < x1 := fun h => hy ((u_gt _).1 h)
          go_wp2
          go_roundw
          case rel => exact ⟨1, by omega, by go_num, Lib.hid ⟨fun _ => by have := hsm.out; omega, fun _ => by have := hsm.out; omega, fun _ => by have := hsm.out; omega, fun _ => by have := hsm.out; omega⟩, trivial⟩
          case measure => simp [intOf]
      by_cases hk1 : k = 1
      · subst hk1
        by_cases hy : 2000 < x2.toNat
        · have hyb : BitVec.ofInt 64 2000 < x2 := (u_gt _).2 hy
          have HV := Lib.hid (HBIG.out (by omega))
          clear hyb HBIG
          have hyb : BitVec.ofInt 64 2000 < x2 := (u_gt _).2 hy
          go_wp2
          refine bodyPost_ret (v := .tuple #[geoZ, U 0#64, .bool false]) ?_ rfl ⟨by rw [HV.out], HW.out⟩
          unfold results
          rw [show Try.f34.results = #[.cell 2 44, .tmp 3, .tmp 4] from rfl]
          go_simp
          exact ⟨rfl, U_lit 0 (by omega) (by omega)⟩
        · have hyb : ¬ BitVec.ofInt 64 2000 < x2 := fun h => hy ((u_gt _).1 h)
          go_wp2
          go_roundw
          case rel => exact ⟨2, by omega, by go_num, Lib.hid ⟨fun _ => by have := hsm.out; omega, fun _ => by have := hsm.out; omega, fun _ => by have := hsm.out; omega, fun _ => by have := hsm.out; omega⟩, trivial⟩
          case measure => simp [intOf]
      by_cases hk2 : k = 2
      · subst hk2
        by_cases hy : 2000 < x3.toNat
        · have hyb : BitVec.ofInt 64 2000 < x3 := (u_gt _).2 hy
          have HV := Lib.hid (HBIG.out (by omega))
          clear hyb HBIG
          have hyb : BitVec.ofInt 64 2000 < x3 := (u_gt _).2 hy
          go_wp2
          refine bodyPost_ret (v := .tuple #[geoZ, U 0#64, .bool false]) ?_ rfl ⟨by rw [HV.out], HW.out⟩
          unfold results
          rw [show Try.f34.results = #[.cell 2 44, .tmp 3, .tmp 4] from rfl]
          go_simp
          exact ⟨rfl, U_lit 0 (by omega) (by omega)⟩
        · have hyb : ¬ BitVec.ofInt 64 2000 < x3 := fun h => hy ((u_gt _).1 h)
          go_wp2
          go_roundw
          case rel => exact ⟨3, by omega, by go_num, Lib.hid ⟨fun _ => by have := hsm.out; omega, fun _ => by have := hsm.out; omega, fun _ => by have := hsm.out; omega, fun _ => by have := hsm.out; omega⟩, trivial⟩
          case measure => simp [intOf]
      by_cases hk3 : k = 3
      · subst hk3
        by_cases hy : 2000 < x4.toNat
        · have hyb : BitVec.ofInt 64 2000 < x4 := (u_gt _).2 hy
          have HV := Lib.hid (HBIG.out (by omega))
          clear hyb HBIG
          have hyb : BitVec.ofInt 64 2000 < x4 := (u_gt _).2 hy
          go_wp2
          refine bodyPost_ret (v := .tuple #[geoZ, U 0#64, .bool false]) ?_ rfl ⟨by rw [HV.out], HW.out⟩
          unfold results
          rw [show Try.f34.results = #[.cell 2 44, .tmp 3, .tmp 4] from rfl]
          go_simp
          exact ⟨rfl, U_lit 0 (by omega) (by omega)⟩
        · have hyb : ¬ BitVec.ofInt 64 2000 < x4 := fun h => hy ((u_gt _).1 h)
          go_wp2
          go_roundw
          case rel => exact ⟨4, by omega, by go_num, Lib.hid ⟨fun _ => by have := hsm.out; omega, fun _ => by have := hsm.out; omega, fun _ => by have := hsm.out; omega, fun _ => by have := hsm.out; omega⟩, trivial⟩
          case measure => simp [intOf]
      obtain rfl : k = 4 := by omega
      obtain ⟨s1, s2, s3, s4⟩ := hsm.out
      have s1 := s1 (by omega)
      have s2 := s2 (by omega)
      have s3 := s3 (by omega)
      have s4 := s4 (by omega)
      have t1 := toInt_small2 s1
      have t2 := toInt_small2 s2
      have t3 := toInt_small2 s3
      have t4 := toInt_small2 s4
      clear hsm hk0 hk1 hk2 hk3 HBIG
      go_wp2_with fail
      apply wp_region_last 51 (Eqs _ :: Eqs _ :: Eqs _ :: Eqs _ :: Eqs _ :: Eqs _ :: Eqs _ :: Eqs _ :: Eqs _ :: Eqs _ :: Eqs _ :: Eqs _ :: Eqs _ :: Eqs _ :: Eqs _ :: Eqs _ :: Eqs _ :: (BoxF (w.heap.size + 1) #[.int .i64 0, .int .i64 0, .int .i64 0, .int .i64 0] 44) :: []) rfl (by kernel_rfl) (by rfl) (stab_cons (stab_eq _) (stab_cons (stab_eq _) (stab_cons (stab_eq _) (stab_cons (stab_eq _) (stab_cons (stab_eq _) (stab_cons (stab_eq _) (stab_cons (stab_eq _) (stab_cons (stab_eq _) (stab_cons (stab_eq _) (stab_cons (stab_eq _) (stab_cons (stab_eq _) (stab_cons (stab_eq _) (stab_cons (stab_eq _) (stab_cons (stab_eq _) (stab_cons (stab_eq _) (stab_cons (stab_eq _) (stab_cons (stab_eq _) (stab_cons stab_box stab_nil)))))))))))))))))) (by kernel_rfl) (by kernel_rfl) (by kernel_rfl)
      case hstep =>
        simp only [List.dropLast_cons_cons, List.dropLast_singleton]
        refine StepsOK.cons ?_ ?_
        · -- 0: Go.Op.move (Go.Operand.tmp 0)
          intro a w1 hR1 hF hU hsz
          have e0 : a.eval (.tmp 0) = _ := hU 0 (by kernel_rfl)
          rw [if_pos (by rfl)]
          intro K hK
          clear hF hU hsz
          obtain ⟨q1, q2, q3⟩ := eval_rest a
          generalize hρ : a.eval = ρ
          rw [hρ] at q1 q2 q3 e0
          clear hρ
          have u1 := OpUp_value Try.prog K
          have u2 := OpUp_enter Try.prog K
          go_simp
          exact hK _ _ (Stood.refl _) rfl
        refine StepsOK.cons ?_ ?_
        · -- 1: Go.Op.indexAddr 28 (Go.Operand.tmp 21) (Go.Operand.const (Go.Value.int Go.IntKin
          intro a w1 hR1 hF hU hsz
          have e21 : a.eval (.tmp 21) = _ := hF 0 _ _ rfl rfl (by kernel_rfl)
          rw [if_pos (by rfl)]
          intro K hK
          clear hF hU hsz
          obtain ⟨q1, q2, q3⟩ := eval_rest a
          generalize hρ : a.eval = ρ
          rw [hρ] at q1 q2 q3 e21
          clear hρ
          have u1 := OpUp_value Try.prog K
          have u2 := OpUp_enter Try.prog K
          go_simp
          exact hK _ _ (Stood.refl _) rfl
        refine StepsOK.cons ?_ ?_
        · -- 2: Go.Op.load 22 (Go.Operand.tmp 22)
          intro a w1 hR1 hF hU hsz
          have e22 : a.eval (.tmp 22) = _ := hF 1 _ _ rfl rfl (by kernel_rfl)
          rw [if_pos (by rfl)]
          intro K hK
          clear hF hU hsz
          have hld := ((Stood.cur hR1).cell (p := ⟨b, off + 1, none⟩) hbl).trans hc1
          obtain ⟨q1, q2, q3⟩ := eval_rest a
          generalize hρ : a.eval = ρ
          rw [hρ] at q1 q2 q3 e22
          clear hρ
          have u1 := OpUp_value Try.prog K
          have u2 := OpUp_enter Try.prog K
          go_simp
          exact hK _ _ (Stood.refl _) rfl
        refine StepsOK.cons ?_ ?_
        · -- 3: Go.Op.convert 22 3 (Go.Operand.tmp 23)
          intro a w1 hR1 hF hU hsz
          have e23 : a.eval (.tmp 23) = _ := hF 2 _ _ rfl rfl (by kernel_rfl)
          rw [if_pos (by rfl)]
          intro K hK
          clear hF hU hsz
          obtain ⟨q1, q2, q3⟩ := eval_rest a
          generalize hρ : a.eval = ρ
          rw [hρ] at q1 q2 q3 e23
          clear hρ
          have u1 := OpUp_value Try.prog K
          have u2 := OpUp_enter Try.prog K
          go_simp
          exact hK _ _ (Stood.refl _) rfl
        refine StepsOK.cons ?_ ?_
        · -- 4: Go.Op.move (Go.Operand.tmp 0)
          intro a w1 hR1 hF hU hsz
          have e0 : a.eval (.tmp 0) = _ := hU 0 (by kernel_rfl)
          rw [if_pos (by rfl)]
          intro K hK
          clear hF hU hsz
          obtain ⟨q1, q2, q3⟩ := eval_rest a
          generalize hρ : a.eval = ρ
          rw [hρ] at q1 q2 q3 e0
          clear hρ
          have u1 := OpUp_value Try.prog K
          have u2 := OpUp_enter Try.prog K
          go_simp
          exact hK _ _ (Stood.refl _) rfl
        refine StepsOK.cons ?_ ?_
        · -- 5: Go.Op.indexAddr 28 (Go.Operand.tmp 25) (Go.Operand.const (Go.Value.int Go.IntKin
          intro a w1 hR1 hF hU hsz
          have e25 : a.eval (.tmp 25) = _ := hF 4 _ _ rfl rfl (by kernel_rfl)
          rw [if_pos (by rfl)]
          intro K hK
          clear hF hU hsz
          obtain ⟨q1, q2, q3⟩ := eval_rest a
          generalize hρ : a.eval = ρ
          rw [hρ] at q1 q2 q3 e25
          clear hρ
          have u1 := OpUp_value Try.prog K
          have u2 := OpUp_enter Try.prog K
          go_simp
          exact hK _ _ (Stood.refl _) rfl
        refine StepsOK.cons ?_ ?_
        · -- 6: Go.Op.load 22 (Go.Operand.tmp 26)
          intro a w1 hR1 hF hU hsz
          have e26 : a.eval (.tmp 26) = _ := hF 5 _ _ rfl rfl (by kernel_rfl)
          rw [if_pos (by rfl)]
          intro K hK
          clear hF hU hsz
          have hld := ((Stood.cur hR1).cell (p := ⟨b, off + 2, none⟩) hbl).trans hc2
          obtain ⟨q1, q2, q3⟩ := eval_rest a
          generalize hρ : a.eval = ρ
          rw [hρ] at q1 q2 q3 e26
          clear hρ
          have u1 := OpUp_value Try.prog K
          have u2 := OpUp_enter Try.prog K
          go_simp
          exact hK _ _ (Stood.refl _) rfl
        refine StepsOK.cons ?_ ?_
        · -- 7: Go.Op.convert 22 3 (Go.Operand.tmp 27)
          intro a w1 hR1 hF hU hsz
          have e27 : a.eval (.tmp 27) = _ := hF 6 _ _ rfl rfl (by kernel_rfl)
          rw [if_pos (by rfl)]
          intro K hK
          clear hF hU hsz
          obtain ⟨q1, q2, q3⟩ := eval_rest a
          generalize hρ : a.eval = ρ
          rw [hρ] at q1 q2 q3 e27
          clear hρ
          have u1 := OpUp_value Try.prog K
          have u2 := OpUp_enter Try.prog K
          go_simp
          exact hK _ _ (Stood.refl _) rfl
        refine StepsOK.cons ?_ ?_
        · -- 8: Go.Op.move (Go.Operand.tmp 0)
          intro a w1 hR1 hF hU hsz
          have e0 : a.eval (.tmp 0) = _ := hU 0 (by kernel_rfl)
          rw [if_pos (by rfl)]
          intro K hK
          clear hF hU hsz
          obtain ⟨q1, q2, q3⟩ := eval_rest a
          generalize hρ : a.eval = ρ
          rw [hρ] at q1 q2 q3 e0
          clear hρ
          have u1 := OpUp_value Try.prog K
          have u2 := OpUp_enter Try.prog K
          go_simp
          exact hK _ _ (Stood.refl _) rfl
        refine StepsOK.cons ?_ ?_
        · -- 9: Go.Op.indexAddr 28 (Go.Operand.tmp 29) (Go.Operand.const (Go.Value.int Go.IntKin
          intro a w1 hR1 hF hU hsz
          have e29 : a.eval (.tmp 29) = _ := hF 8 _ _ rfl rfl (by kernel_rfl)
          rw [if_pos (by rfl)]
          intro K hK
          clear hF hU hsz
          obtain ⟨q1, q2, q3⟩ := eval_rest a
          generalize hρ : a.eval = ρ
          rw [hρ] at q1 q2 q3 e29
          clear hρ
          have u1 := OpUp_value Try.prog K
          have u2 := OpUp_enter Try.prog K
          go_simp
          exact hK _ _ (Stood.refl _) rfl
        refine StepsOK.cons ?_ ?_
        · -- 10: Go.Op.load 22 (Go.Operand.tmp 30)
          intro a w1 hR1 hF hU hsz
          have e30 : a.eval (.tmp 30) = _ := hF 9 _ _ rfl rfl (by kernel_rfl)
          rw [if_pos (by rfl)]
          intro K hK
          clear hF hU hsz
          have hld := ((Stood.cur hR1).cell (p := ⟨b, off + 3, none⟩) hbl).trans hc3
          obtain ⟨q1, q2, q3⟩ := eval_rest a
          generalize hρ : a.eval = ρ
          rw [hρ] at q1 q2 q3 e30
          clear hρ
          have u1 := OpUp_value Try.prog K
          have u2 := OpUp_enter Try.prog K
          go_simp
          exact hK _ _ (Stood.refl _) rfl
        refine StepsOK.cons ?_ ?_
        · -- 11: Go.Op.convert 22 3 (Go.Operand.tmp 31)
          intro a w1 hR1 hF hU hsz
          have e31 : a.eval (.tmp 31) = _ := hF 10 _ _ rfl rfl (by kernel_rfl)
          rw [if_pos (by rfl)]
          intro K hK
          clear hF hU hsz
          obtain ⟨q1, q2, q3⟩ := eval_rest a
          generalize hρ : a.eval = ρ
          rw [hρ] at q1 q2 q3 e31
          clear hρ
          have u1 := OpUp_value Try.prog K
          have u2 := OpUp_enter Try.prog K
          go_simp
          exact hK _ _ (Stood.refl _) rfl
        refine StepsOK.cons ?_ ?_
        · -- 12: Go.Op.move (Go.Operand.tmp 0)
          intro a w1 hR1 hF hU hsz
          have e0 : a.eval (.tmp 0) = _ := hU 0 (by kernel_rfl)
          rw [if_pos (by rfl)]
          intro K hK
          clear hF hU hsz
          obtain ⟨q1, q2, q3⟩ := eval_rest a
          generalize hρ : a.eval = ρ
          rw [hρ] at q1 q2 q3 e0
          clear hρ
          have u1 := OpUp_value Try.prog K
          have u2 := OpUp_enter Try.prog K
          go_simp
          exact hK _ _ (Stood.refl _) rfl
        refine StepsOK.cons ?_ ?_
        · -- 13: Go.Op.indexAddr 28 (Go.Operand.tmp 33) (Go.Operand.const (Go.Value.int Go.IntKin
          intro a w1 hR1 hF hU hsz
          have e33 : a.eval (.tmp 33) = _ := hF 12 _ _ rfl rfl (by kernel_rfl)
          rw [if_pos (by rfl)]
          intro K hK
          clear hF hU hsz
          obtain ⟨q1, q2, q3⟩ := eval_rest a
          generalize hρ : a.eval = ρ
          rw [hρ] at q1 q2 q3 e33
          clear hρ
          have u1 := OpUp_value Try.prog K
          have u2 := OpUp_enter Try.prog K
          go_simp
          exact hK _ _ (Stood.refl _) rfl
        refine StepsOK.cons ?_ ?_
        · -- 14: Go.Op.load 22 (Go.Operand.tmp 34)
          intro a w1 hR1 hF hU hsz
          have e34 : a.eval (.tmp 34) = _ := hF 13 _ _ rfl rfl (by kernel_rfl)
          rw [if_pos (by rfl)]
          intro K hK
          clear hF hU hsz
          have hld := ((Stood.cur hR1).cell (p := ⟨b, off + 4, none⟩) hbl).trans hc4
          obtain ⟨q1, q2, q3⟩ := eval_rest a
          generalize hρ : a.eval = ρ
          rw [hρ] at q1 q2 q3 e34
          clear hρ
          have u1 := OpUp_value Try.prog K
          have u2 := OpUp_enter Try.prog K
          go_simp
          exact hK _ _ (Stood.refl _) rfl
        refine StepsOK.cons ?_ ?_
        · -- 15: Go.Op.convert 22 3 (Go.Operand.tmp 35)
          intro a w1 hR1 hF hU hsz
          have e35 : a.eval (.tmp 35) = _ := hF 14 _ _ rfl rfl (by kernel_rfl)
          rw [if_pos (by rfl)]
          intro K hK
          clear hF hU hsz
          obtain ⟨q1, q2, q3⟩ := eval_rest a
          generalize hρ : a.eval = ρ
          rw [hρ] at q1 q2 q3 e35
          clear hρ
          have u1 := OpUp_value Try.prog K
          have u2 := OpUp_enter Try.prog K
          go_simp
          exact hK _ _ (Stood.refl _) rfl
        refine StepsOK.cons ?_ ?_
        · -- 16: Go.Op.build 44 #[(0, Go.Operand.tmp 24), (1, Go.Operand.tmp 28), (2, Go.Operand.
          intro a w1 hR1 hF hU hsz
          have e24 : a.eval (.tmp 24) = _ := hF 3 _ _ rfl rfl (by kernel_rfl)
          have e28 : a.eval (.tmp 28) = _ := hF 7 _ _ rfl rfl (by kernel_rfl)
          have e32 : a.eval (.tmp 32) = _ := hF 11 _ _ rfl rfl (by kernel_rfl)
          have e36 : a.eval (.tmp 36) = _ := hF 15 _ _ rfl rfl (by kernel_rfl)
          rw [if_pos (by rfl)]
          intro K hK
          clear hF hU hsz
          obtain ⟨q1, q2, q3⟩ := eval_rest a
          generalize hρ : a.eval = ρ
          rw [hρ] at q1 q2 q3 e24 e28 e32 e36
          clear hρ
          have u1 := OpUp_value Try.prog K
          have u2 := OpUp_enter Try.prog K
          go_simp
          exact hK _ _ (Stood.refl _) rfl
        refine StepsOK.cons ?_ ?_
        · -- 17: Go.Op.alloc 44
          intro a w1 hR1 hF hU hsz
          rw [if_pos (by rfl)]
          intro K hK
          clear hF hU hsz
          obtain ⟨q1, q2, q3⟩ := eval_rest a
          generalize hρ : a.eval = ρ
          rw [hρ] at q1 q2 q3
          clear hρ
          have u1 := OpUp_value Try.prog K
          have u2 := OpUp_enter Try.prog K
          go_simp
          exact hK _ _ ((Below.refl _ _).alloc (Nat.le_refl _) _) ⟨_, rfl, by have := hR1.size; simp at this; omega, heap_alloc_new w1 _⟩
        exact StepsOK.nil
      case hend =>
        intro vs0 w1 hR1 hH0
        obtain ⟨vs1, rfl, hH1⟩ := hH0.eq_
        obtain ⟨vs2, rfl, hH2⟩ := hH1.eq_
        obtain ⟨vs3, rfl, hH3⟩ := hH2.eq_
        obtain ⟨vs4, rfl, hH4⟩ := hH3.eq_
        obtain ⟨vs5, rfl, hH5⟩ := hH4.eq_
        obtain ⟨vs6, rfl, hH6⟩ := hH5.eq_
        obtain ⟨vs7, rfl, hH7⟩ := hH6.eq_
        obtain ⟨vs8, rfl, hH8⟩ := hH7.eq_
        obtain ⟨vs9, rfl, hH9⟩ := hH8.eq_
        obtain ⟨vs10, rfl, hH10⟩ := hH9.eq_
        obtain ⟨vs11, rfl, hH11⟩ := hH10.eq_
        obtain ⟨vs12, rfl, hH12⟩ := hH11.eq_
        obtain ⟨vs13, rfl, hH13⟩ := hH12.eq_
        obtain ⟨vs14, rfl, hH14⟩ := hH13.eq_
        obtain ⟨vs15, rfl, hH15⟩ := hH14.eq_
        obtain ⟨vs16, rfl, hH16⟩ := hH15.eq_
        obtain ⟨vs17, rfl, hH17⟩ := hH16.eq_
        obtain ⟨v17, vs18, rfl, hv17, hH18⟩ := hH17.cons
        obtain rfl := hH18.nil
        clear hH0 hH1 hH2 hH3 hH4 hH5 hH6 hH7 hH8 hH9 hH10 hH11 hH12 hH13 hH14 hH15 hH16 hH17 hH18
        simp only [List.dropLast_cons_cons, List.dropLast_singleton, putAll, Act.put, List.setIfInBounds_toArray, List.set_cons_zero, List.set_cons_succ]
        obtain ⟨q6, rfl, hq6, hh6⟩ := hv17
        have ay0 := Lib.cell_of_heap hh6 0
        have af0 := Lib.frozen_of_heap hh6 0
        have ay1 := Lib.cell_of_heap hh6 1
        have af1 := Lib.frozen_of_heap hh6 1
        have ay2 := Lib.cell_of_heap hh6 2
        have af2 := Lib.frozen_of_heap hh6 2
        have ay3 := Lib.cell_of_heap hh6 3
        have af3 := Lib.frozen_of_heap hh6 3
        have HB := Lib.hid ((Stood.cur hR1) : Below _ _ _)
        have hh6 := Go.Joins.block_setCell (i := 0) hh6 (.int .i64 (x1.toNat : Int))
        have HB := Lib.hid (HB.out.setCell (p := ⟨q6, 0, none⟩) (show _ ≤ q6 by simp; omega) (.int .i64 (x1.toNat : Int)))
        have hh6 := Go.Joins.block_setCell (i := 1) hh6 (.int .i64 (x2.toNat : Int))
        have HB := Lib.hid (HB.out.setCell (p := ⟨q6, 1, none⟩) (show _ ≤ q6 by simp; omega) (.int .i64 (x2.toNat : Int)))
        have hh6 := Go.Joins.block_setCell (i := 2) hh6 (.int .i64 (x3.toNat : Int))
        have HB := Lib.hid (HB.out.setCell (p := ⟨q6, 2, none⟩) (show _ ≤ q6 by simp; omega) (.int .i64 (x3.toNat : Int)))
        have hh6 := Go.Joins.block_setCell (i := 3) hh6 (.int .i64 (x4.toNat : Int))
        have HB := Lib.hid (HB.out.setCell (p := ⟨q6, 3, none⟩) (show _ ≤ q6 by simp; omega) (.int .i64 (x4.toNat : Int)))
        go_wp2_with fail
        generalize hw9 : ((((w1.setCell ⟨q6, 0, none⟩ (.int .i64 (x1.toNat : Int))).setCell ⟨q6, 1, none⟩ (.int .i64 (x2.toNat : Int))).setCell ⟨q6, 2, none⟩ (.int .i64 (x3.toNat : Int))).setCell ⟨q6, 3, none⟩ (.int .i64 (x4.toNat : Int))) = w9 at *
        simp only [List.setIfInBounds_toArray, List.set_cons_zero, List.set_cons_succ] at hh6
        have HQ6 := Lib.hid hh6
        clear hh6 ay0 af0 ay1 af1 ay2 af2 ay3 af3 hw9 hR1
        have KP := Lib.hid (fun (W : World) => show Calls Try.prog 32 #[.agg #[.int .i64 (x1.toNat : Int), .int .i64 (x2.toNat : Int), .int .i64 (x3.toNat : Int), .int .i64 (x4.toNat : Int)], U x6] W (fun e w' => (∃ B d, e = .returned (.slice B (headW (geoW [x0, x1, x2, x3, x4, x5, x6, x7]) x6).length d) ∧ OwnU w' W.heap.size B (headW (geoW [x0, x1, x2, x3, x4, x5, x6, x7]) x6) d) ∧ Below W.heap.size W w') from rPut_any (geoW [x0, x1, x2, x3, x4, x5, x6, x7]) x6 W)
        have HLN := Lib.hid (show (headW (geoW [x0, x1, x2, x3, x4, x5, x6, x7]) x6).length ≤ maxLen by rw [headW_len]; unfold maxLen; split <;> simp)
        have HOK := Lib.hid (show headOk [x0, x1, x2, x3, x4, x5, x6, x7] = (headW (geoW [x0, x1, x2, x3, x4, x5, x6, x7]) x6 == [x0, x1, x2, x3, x4, x5, x6, x7]) from headOk_eight rfl)
        have HGV := Lib.hid (show (if headOk [x0, x1, x2, x3, x4, x5, x6, x7] = true then Value.tuple #[.agg #[.int .i64 (x1.toNat : Int), .int .i64 (x2.toNat : Int), .int .i64 (x3.toNat : Int), .int .i64 (x4.toNat : Int)], U x6, .bool true] else .tuple #[geoZ, U 0#64, .bool false]) = rGetV [x0, x1, x2, x3, x4, x5, x6, x7] from rfl)
        generalize headW (geoW [x0, x1, x2, x3, x4, x5, x6, x7]) x6 = hw at *
        apply wp_region_last 51 (Eqs _ :: Eqs _ :: Eqs _ :: Eqs _ :: (RdUs hw) :: Eqs _ :: Eqs _ :: []) rfl (by kernel_rfl) (by rfl) (stab_cons (stab_eq _) (stab_cons (stab_eq _) (stab_cons (stab_eq _) (stab_cons (stab_eq _) (stab_cons stab_rdU (stab_cons (stab_eq _) (stab_cons (stab_eq _) stab_nil))))))) (by kernel_rfl) (by kernel_rfl) (by kernel_rfl)
        case hstep =>
          simp only [List.dropLast_cons_cons, List.dropLast_singleton]
          refine StepsOK.cons ?_ ?_
          · -- 0: Go.Op.load 44 (Go.Operand.tmp 6)
            intro a w1 hR1 hF hU hsz
            have e6 : a.eval (.tmp 6) = _ := hU 6 (by kernel_rfl)
            rw [if_pos (by rfl)]
            intro K hK
            clear hF hU hsz
            have hq := (hR1.block q6 (Array.getElem?_eq_some_iff.1 HQ6.out).1).trans HQ6.out
            have hz0 := Lib.cell_of_heap hq 0
            have hz1 := Lib.cell_of_heap hq 1
            have hz2 := Lib.cell_of_heap hq 2
            have hz3 := Lib.cell_of_heap hq 3
            obtain ⟨q1, q2, q3⟩ := eval_rest a
            generalize hρ : a.eval = ρ
            rw [hρ] at q1 q2 q3 e6
            clear hρ
            have u1 := OpUp_value Try.prog K
            have u2 := OpUp_enter Try.prog K
            go_simp
            exact hK _ _ (Stood.refl _) rfl
          refine StepsOK.cons ?_ ?_
          · -- 1: Go.Op.move (Go.Operand.tmp 0)
            intro a w1 hR1 hF hU hsz
            have e0 : a.eval (.tmp 0) = _ := hU 0 (by kernel_rfl)
            rw [if_pos (by rfl)]
            intro K hK
            clear hF hU hsz
            obtain ⟨q1, q2, q3⟩ := eval_rest a
            generalize hρ : a.eval = ρ
            rw [hρ] at q1 q2 q3 e0
            clear hρ
            have u1 := OpUp_value Try.prog K
            have u2 := OpUp_enter Try.prog K
            go_simp
            exact hK _ _ (Stood.refl _) rfl
          refine StepsOK.cons ?_ ?_
          · -- 2: Go.Op.indexAddr 28 (Go.Operand.tmp 39) (Go.Operand.const (Go.Value.int Go.IntKin
            intro a w1 hR1 hF hU hsz
            have e39 : a.eval (.tmp 39) = _ := hF 1 _ _ rfl rfl (by kernel_rfl)
            rw [if_pos (by rfl)]
            intro K hK
            clear hF hU hsz
            obtain ⟨q1, q2, q3⟩ := eval_rest a
            generalize hρ : a.eval = ρ
            rw [hρ] at q1 q2 q3 e39
            clear hρ
            have u1 := OpUp_value Try.prog K
            have u2 := OpUp_enter Try.prog K
            go_simp
            exact hK _ _ (Stood.refl _) rfl
          refine StepsOK.cons ?_ ?_
          · -- 3: Go.Op.load 22 (Go.Operand.tmp 40)
            intro a w1 hR1 hF hU hsz
            have e40 : a.eval (.tmp 40) = _ := hF 2 _ _ rfl rfl (by kernel_rfl)
            rw [if_pos (by rfl)]
            intro K hK
            clear hF hU hsz
            have hld := ((HB.out.trans ((Stood.cur hR1).mono HB.out.size)).cell (p := ⟨b, off + 6, none⟩) hbl).trans hc6
            obtain ⟨q1, q2, q3⟩ := eval_rest a
            generalize hρ : a.eval = ρ
            rw [hρ] at q1 q2 q3 e40
            clear hρ
            have u1 := OpUp_value Try.prog K
            have u2 := OpUp_enter Try.prog K
            go_simp
            exact hK _ _ (Stood.refl _) rfl
          refine StepsOK.cons ?_ ?_
          · -- 4: Go.Op.call { callee := Go.Callee.value (Go.Operand.func 32), args := #[Go.Operan
            intro a w1 hR1 hF hU hsz
            have e38 : a.eval (.tmp 38) = _ := hF 0 _ _ rfl rfl (by kernel_rfl)
            have e41 : a.eval (.tmp 41) = _ := hF 3 _ _ rfl rfl (by kernel_rfl)
            rw [if_pos (by rfl)]
            intro K hK
            clear hF hU hsz
            obtain ⟨q1, q2, q3⟩ := eval_rest a
            generalize hρ : a.eval = ρ
            rw [hρ] at q1 q2 q3 e38 e41
            clear hρ
            have u1 := OpUp_value Try.prog K
            have u2 := OpUp_enter Try.prog K
            go_simp
            refine (KP.out w1).mono ?_
            rintro e w' ⟨⟨B, d, rfl, ho⟩, hb⟩
            exact ⟨_, rfl, hK _ _ hb ⟨B, d, rfl, ho.rd, HLN.out⟩⟩
          refine StepsOK.cons ?_ ?_
          · -- 5: Go.Op.move (Go.Operand.tmp 0)
            intro a w1 hR1 hF hU hsz
            have e0 : a.eval (.tmp 0) = _ := hU 0 (by kernel_rfl)
            rw [if_pos (by rfl)]
            intro K hK
            clear hF hU hsz
            obtain ⟨q1, q2, q3⟩ := eval_rest a
            generalize hρ : a.eval = ρ
            rw [hρ] at q1 q2 q3 e0
            clear hρ
            have u1 := OpUp_value Try.prog K
            have u2 := OpUp_enter Try.prog K
            go_simp
            exact hK _ _ (Stood.refl _) rfl
          refine StepsOK.cons ?_ ?_
          · -- 6: Go.Op.call { callee := Go.Callee.value (Go.Operand.func 79), args := #[Go.Operan
            intro a w1 hR1 hF hU hsz
            have e42 := hF 4 _ _ rfl rfl (by kernel_rfl)
            obtain ⟨B42, d42, e42, r42, l42⟩ := e42
            have e42 : a.eval (.tmp 42) = _ := e42
            have e43 : a.eval (.tmp 43) = _ := hF 5 _ _ rfl rfl (by kernel_rfl)
            rw [if_pos (by rfl)]
            intro K hK
            clear hF hU hsz
            obtain ⟨q1, q2, q3⟩ := eval_rest a
            generalize hρ : a.eval = ρ
            rw [hρ] at q1 q2 q3 e42 e43
            clear hρ
            have u1 := OpUp_value Try.prog K
            have u2 := OpUp_enter Try.prog K
            go_simp
            have HWP := Lib.hid (HW.out.trans ((HB.out.trans ((Stood.cur hR1).mono HB.out.size)).mono HW.out.size))
            refine (refSame_any hw [x0, x1, x2, x3, x4, x5, x6, x7] B42 (some ⟨b, off, none⟩) d42 c w1 r42 (HR.out.below HWP.out) l42 (by unfold maxLen; simp)).mono ?_
            rintro e w' ⟨rfl, hd⟩
            rw [← HOK.out]
            exact ⟨_, rfl, hK _ _ (hd.below _) rfl⟩
          exact StepsOK.nil
        case hend =>
          intro vs0 w1 hR1 hH0
          obtain ⟨vs1, rfl, hH1⟩ := hH0.eq_
          obtain ⟨vs2, rfl, hH2⟩ := hH1.eq_
          obtain ⟨vs3, rfl, hH3⟩ := hH2.eq_
          obtain ⟨vs4, rfl, hH4⟩ := hH3.eq_
          obtain ⟨v4, vs5, rfl, hv4, hH5⟩ := hH4.cons
          obtain ⟨vs6, rfl, hH6⟩ := hH5.eq_
          obtain ⟨vs7, rfl, hH7⟩ := hH6.eq_
          obtain rfl := hH7.nil
          clear hH0 hH1 hH2 hH3 hH4 hH5 hH6 hH7
          simp only [List.dropLast_cons_cons, List.dropLast_singleton, putAll, Act.put, List.setIfInBounds_toArray, List.set_cons_zero, List.set_cons_succ]
          have HQ6 := Lib.hid ((hR1.block q6 (Array.getElem?_eq_some_iff.1 HQ6.out).1).trans HQ6.out)
          have HB := Lib.hid (HB.out.trans ((Stood.cur hR1).mono HB.out.size))
          have hh2 := (HB.out.block w.heap.size (by simp)).trans HZ.out
          have by0 := Lib.cell_of_heap hh2 0
          have bf0 := Lib.frozen_of_heap hh2 0
          have by1 := Lib.cell_of_heap hh2 1
          have bf1 := Lib.frozen_of_heap hh2 1
          have by2 := Lib.cell_of_heap hh2 2
          have bf2 := Lib.frozen_of_heap hh2 2
          have by3 := Lib.cell_of_heap hh2 3
          have bf3 := Lib.frozen_of_heap hh2 3
          generalize headOk [x0, x1, x2, x3, x4, x5, x6, x7] = q at *
          cases q with
          | false =>
            have HWP := Lib.hid (HW.out.trans (HB.out.mono HW.out.size))
            clear HQ6
            have HWP := Lib.hid (HWP.out.setCell (p := ⟨w.heap.size, 0, none⟩) (Nat.le_refl _) (.int .i64 0))
            have HWP := Lib.hid (HWP.out.setCell (p := ⟨w.heap.size, 1, none⟩) (Nat.le_refl _) (.int .i64 0))
            have HWP := Lib.hid (HWP.out.setCell (p := ⟨w.heap.size, 2, none⟩) (Nat.le_refl _) (.int .i64 0))
            have HWP := Lib.hid (HWP.out.setCell (p := ⟨w.heap.size, 3, none⟩) (Nat.le_refl _) (.int .i64 0))
            go_wp2
            refine bodyPost_ret (v := .tuple #[geoZ, U 0#64, .bool false]) ?_ rfl ⟨by rw [← HGV.out]; rfl, HWP.out⟩
            unfold results
            rw [show Try.f34.results = #[.cell 2 44, .tmp 3, .tmp 4] from rfl]
            go_simp
            exact ⟨rfl, U_lit 0 (by omega) (by omega)⟩
          | true =>
            have HWP := Lib.hid (HW.out.trans (HB.out.mono HW.out.size))
            have hq6 := HQ6.out
            have cy0 := Lib.cell_of_heap hq6 0
            have cy1 := Lib.cell_of_heap hq6 1
            have cy2 := Lib.cell_of_heap hq6 2
            have cy3 := Lib.cell_of_heap hq6 3
            clear hq6
            have hx6 := (HB.out.cell (p := ⟨b, off + 6, none⟩) hbl).trans hc6
            have hbw : ¬ b = w.heap.size := HXB.out
            have hbw2 : ¬ w.heap.size = b := fun e => hbw e.symm
            have HWP' := HWP
            have HWP := Lib.hid (HWP.out.setCell (p := ⟨w.heap.size, 0, none⟩) (Nat.le_refl _) (.int .i64 (x1.toNat : Int)))
            have HWP := Lib.hid (HWP.out.setCell (p := ⟨w.heap.size, 1, none⟩) (Nat.le_refl _) (.int .i64 (x2.toNat : Int)))
            have HWP := Lib.hid (HWP.out.setCell (p := ⟨w.heap.size, 2, none⟩) (Nat.le_refl _) (.int .i64 (x3.toNat : Int)))
            have HWP := Lib.hid (HWP.out.setCell (p := ⟨w.heap.size, 3, none⟩) (Nat.le_refl _) (.int .i64 (x4.toNat : Int)))
            go_wp2_with fail
            go_region
            go_wp2
            refine bodyPost_ret (v := .tuple #[.agg #[.int .i64 (x1.toNat : Int), .int .i64 (x2.toNat : Int), .int .i64 (x3.toNat : Int), .int .i64 (x4.toNat : Int)], U x6, .bool true]) ?_ rfl ⟨by rw [← HGV.out]; rfl, HWP.out.drew⟩
            unfold results
            rw [show Try.f34.results = #[.cell 2 44, .tmp 3, .tmp 4] from rfl]
            go_simp
            all_goals rfl
  · have HF := Lib.hid (rGetV_bad (show headOk xs = false by unfold headOk; rw [decide_eq_false hl]; rfl))
    clear HR
    go_enter Try.func34, Try.ntmps34
    go_wp2
    refine bodyPost_ret (v := .tuple #[geoZ, U 0#64, .bool false]) ?_ rfl ⟨by rw [HF.out], HW.out⟩
    unfold results
    rw [show Try.f34.results = #[.cell 2 44, .tmp 3, .tmp 4] from rfl]
    go_simp
    exact ⟨rfl, U_lit 0 (by omega) (by omega)⟩
end Go.Proofs.Ytgkojedgamglgaa
