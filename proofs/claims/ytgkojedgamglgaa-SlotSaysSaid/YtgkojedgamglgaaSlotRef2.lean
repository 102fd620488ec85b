/- The walk of the reference's GetSlot. Condition: the words can be read. -/
import Derived.Test.YtgkojedgamglgaaSlotRef
import Derived.Test.YtgkojedgamglgaaSlotW2
import Derived.Test.YtgkojedgamglgaaRefSame
namespace Go.Proofs.Ytgkojedgamglgaa
open Go.RowKit
set_option linter.unusedVariables false
set_option linter.unusedSimpArgs false
/-- Bytes that can be read, and their capacity: a fact that lasts. -/
def OwnUsY (xs : List (BitVec 8)) : Fact := fun v w => ∃ (B : Option Addr) (d : Nat), v = .slice B xs.length d ∧ (RdF Y w B xs ∧ xs.length ≤ d ∧ d ≤ maxLen)
theorem stab_ownY {xs : List (BitVec 8)} : Stab Stood (OwnUsY xs) := fun v w w' ⟨B, d, e, hr, h1, h2⟩ h => ⟨B, d, e, hr.below h, h1, h2⟩
set_option maxRecDepth 100000 in
set_option maxHeartbeats 8000000 in
theorem refGetS_any (xs : List (BitVec 64)) (A : Option Addr) (c : Nat) (w : World) (hr : RdU w A xs) (hc : xs.length ≤ c) (hm : c ≤ maxLen) :
    Calls Try.prog 69 #[.slice A xs.length c] w fun e w' => e = .returned (.tuple #[slV (tellZ xs) (tellS xs), .bool (slotOk xs)]) ∧ Below w.heap.size w w' := by
  have hm' := hm
  unfold maxLen at hm'
  have HR := Lib.hid hr
  clear hr
  have HW := Lib.hid ((Below.refl w.heap.size w).alloc (Nat.le_refl _) (.cells #[.int .i64 0, .string ⟨#[]⟩] 111))
  have HZ := Lib.hid (fun (h : slotOk xs = false) => show slV (tellZ xs) (tellS xs) = .agg #[.int .i64 0, .string ⟨#[]⟩] by unfold tellZ tellS; rw [h]; rfl)
  by_cases hl : xs.length = 8
  rotate_left
  · skip
    have HNO := Lib.hid (show slotOk xs = false by unfold slotOk; rw [decide_eq_false hl]; rfl)
    have HZ1 := Lib.hid (HZ.out HNO.out)
    clear HZ
    have hne : ((xs.length : Int) != 8) = true := by rw [bne_iff_ne]; omega
    have hne2 : ¬ ((xs.length : Int) = 8) := by omega
    clear hl
    go_enter Try.func69, Try.ntmps69
    go_wp2
    all_goals
      refine bodyPost_ret (v := .tuple #[.agg #[.int .i64 0, .string ⟨#[]⟩], .bool false]) ?_ rfl ⟨by rw [HZ1.out, HNO.out], HW.out⟩
      unfold results
      rw [show Try.f69.results = #[.cell 2 111, .tmp 3] from rfl]
      go_simp
      try rfl
  obtain ⟨b, off, rfl, hcell⟩ := HR.out.at_ (show 0 < xs.length by omega)
  have hbw := cell_lt (hcell 0 (by omega))
  have HC := Lib.hid (fun j hj => (HW.out.cell (p := ⟨b, off + j, none⟩) hbw).trans (hcell j hj))
  clear hcell
  obtain ⟨x0, x1, x2, x3, x4, x5, x6, x7, hxs⟩ := eight_s hl
  have HLL := Lib.hid hl
  have g0 : xs.getD 0 0 = x0 := by rw [hxs]; rfl
  have g1 : xs.getD 1 0 = x1 := by rw [hxs]; rfl
  have hc0 := HC.out 0 (by omega)
  have hc1 := HC.out 1 (by omega)
  simp only [hxs, List.getElem_cons_succ, List.getElem_cons_zero, Nat.add_zero] at hc0 hc1
  have hbl : b < (w.alloc (.cells #[.int .i64 0, .string ⟨#[]⟩] 111)).heap.size := cell_lt hc0
  have HRW := Lib.hid (HR.out.below HW.out)
  rw [hl]
  have h8c : 8 ≤ c := by omega
  clear hxs
  by_cases h64 : x0.toNat ≤ 64
  rotate_left
  · skip
    have HNO := Lib.hid (show slotOk xs = false by unfold slotOk; rw [g0, decide_eq_false h64]; simp)
    have HZ1 := Lib.hid (HZ.out HNO.out)
    clear HZ
    have k3 : 64#64 < x0 := BitVec.lt_def.2 (by simp; omega)
    have k3b : ¬ x0 ≤ 64#64 := fun h => by have := BitVec.le_def.1 h; simp at this; omega
    clear h64 hl
    go_enter Try.func69, Try.ntmps69
    go_wp2
    all_goals
      refine bodyPost_ret (v := .tuple #[.agg #[.int .i64 0, .string ⟨#[]⟩], .bool false]) ?_ rfl ⟨by rw [HZ1.out, HNO.out], HW.out⟩
      unfold results
      rw [show Try.f69.results = #[.cell 2 111, .tmp 3] from rfl]
      go_simp
      try rfl
  have k3 : ¬ 64#64 < x0 := fun h => by have := BitVec.lt_def.1 h; simp at this; omega
  have k3b : x0 ≤ 64#64 := BitVec.le_def.2 (by simp; omega)
  by_cases h40 : x1.toNat ≤ 40
  rotate_left
  · skip
    have HNO := Lib.hid (show slotOk xs = false by unfold slotOk; rw [g1, decide_eq_false h40]; simp)
    have HZ1 := Lib.hid (HZ.out HNO.out)
    clear HZ
    have k4 : 40#64 < x1 := BitVec.lt_def.2 (by simp; omega)
    have k4b : ¬ x1 ≤ 40#64 := fun h => by have := BitVec.le_def.1 h; simp at this; omega
    clear h64 h40 hl
    go_enter Try.func69, Try.ntmps69
    go_wp2
    all_goals
      refine bodyPost_ret (v := .tuple #[.agg #[.int .i64 0, .string ⟨#[]⟩], .bool false]) ?_ rfl ⟨by rw [HZ1.out, HNO.out], HW.out⟩
      unfold results
      rw [show Try.f69.results = #[.cell 2 111, .tmp 3] from rfl]
      go_simp
      try rfl
  have k4 : ¬ 40#64 < x1 := fun h => by have := BitVec.lt_def.1 h; simp at this; omega
  have k4b : x1 ≤ 40#64 := BitVec.le_def.2 (by simp; omega)
  have HOK := Lib.hid (show slotOk xs = (slotW x0.toInt ⟨(nameOf xs x1.toNat).toArray⟩ == xs) by unfold slotOk strO; rw [decide_eq_true hl, g0, g1, decide_eq_true h64, decide_eq_true h40]; rfl)
  have HV := Lib.hid (fun (h : slotOk xs = true) => show tellZ xs = x0.toInt ∧ tellS xs = ⟨(nameOf xs x1.toNat).toArray⟩ by unfold tellZ tellS strO; rw [if_pos h, if_pos h, g0, g1]; exact ⟨rfl, rfl⟩)
  have eu : U x1 = .int .u64 ((x1.toNat : Nat) : Int) := rfl
  have HSY := Lib.hid (strY_name xs hl x1.toNat h40)
  have HSZ := Lib.hid (show (⟨(nameOf xs x1.toNat).toArray⟩ : ByteArray).size ≤ maxLen by
    show (nameOf xs x1.toNat).toArray.size ≤ maxLen
    rw [List.size_toArray, nameOf_len]; unfold maxLen; omega)
  have HYL := Lib.hid (show ((xs.drop 2).take 5).length = 5 by rw [List.length_take, List.length_drop, hl]; decide)
  have HBL := Lib.hid (show (bytesOf ((xs.drop 2).take 5)).length = 40 by rw [length_bytesOf, HYL.out])
  have HRS := Lib.hid (show RdU (w.alloc (.cells #[.int .i64 0, .string ⟨#[]⟩] 111)) (some ⟨b, off + 2, none⟩) ((xs.drop 2).take 5) from (HRW.out.drop 2).take 5)
  have KBY := Lib.hid (fun W c h => refBytes_any ((xs.drop 2).take 5) (some ⟨b, off + 2, none⟩) c W h (by rw [HYL.out]; omega))
  rw [HYL.out] at KBY
  have KPS := Lib.hid (fun W => refPut_any x0.toInt ⟨(nameOf xs x1.toNat).toArray⟩ HSZ.out W)
  have HTL := Lib.hid (show ((bytesOf ((xs.drop 2).take 5)).take x1.toNat).length = x1.toNat by rw [List.length_take, HBL.out]; omega)
  have HTK := Lib.hid (fun W B (h : RdF Y W B (bytesOf ((xs.drop 2).take 5))) => show RdF Y W B ((bytesOf ((xs.drop 2).take 5)).take x1.toNat) from h.take _)
  generalize (bytesOf ((xs.drop 2).take 5)).take x1.toNat = bt at *
  generalize bytesOf ((xs.drop 2).take 5) = by40 at *
  generalize (xs.drop 2).take 5 = ys at *
  generalize (⟨(nameOf xs x1.toNat).toArray⟩ : ByteArray) = st at *
  generalize x1.toNat = n1 at *
  have hsz0 : (w.alloc (.cells #[.int .i64 0, .string ⟨#[]⟩] 111)).heap.size = w.heap.size + 1 := by simp
  have HZC := Lib.hid (heap_alloc_new w (.cells #[.int .i64 0, .string ⟨#[]⟩] 111))
  clear h64 hl g0 g1
  go_enter Try.func69, Try.ntmps69
  go_wp2_with fail
  apply wp_region_last 41 (Eqs _ :: Eqs _ :: Eqs _ :: Eqs _ :: Eqs _ :: Eqs _ :: (OwnUsY by40) :: Eqs _ :: Eqs _ :: Eqs _ :: (RdYs bt) :: Eqs _ :: Eqs _ :: (BoxF (w.heap.size + 1) #[.int .i64 0, .string ⟨#[]⟩] 111) :: []) rfl (by kernel_rfl) (by rfl) (stab_cons (stab_eq _) (stab_cons (stab_eq _) (stab_cons (stab_eq _) (stab_cons (stab_eq _) (stab_cons (stab_eq _) (stab_cons (stab_eq _) (stab_cons stab_ownY (stab_cons (stab_eq _) (stab_cons (stab_eq _) (stab_cons (stab_eq _) (stab_cons stab_rdY (stab_cons (stab_eq _) (stab_cons (stab_eq _) (stab_cons stab_box stab_nil)))))))))))))) (by kernel_rfl) (by kernel_rfl) (by kernel_rfl)
  case hstep =>
    simp only [List.dropLast_cons_cons, List.dropLast_singleton]
    refine StepsOK.cons ?_ ?_
    · -- 0: Go.Op.move (Go.Operand.tmp 0)
      intro a w1 hR1 hF hU hsz
      have e0 : a.eval (.tmp 0) = _ := hU 0 (by kernel_rfl)
      rw [if_pos (by rfl)]
      intro K hK
      clear hF hU hsz
      obtain ⟨q1, q2, q3⟩ := eval_rest a
      generalize hρ : a.eval = ρ
      rw [hρ] at q1 q2 q3 e0
      clear hρ
      have u1 := OpUp_value Try.prog K
      have u2 := OpUp_enter Try.prog K
      go_simp
      exact hK _ _ (Stood.refl _) rfl
    refine StepsOK.cons ?_ ?_
    · -- 1: Go.Op.indexAddr 28 (Go.Operand.tmp 21) (Go.Operand.const (Go.Value.int Go.IntKin
      intro a w1 hR1 hF hU hsz
      have e21 : a.eval (.tmp 21) = _ := hF 0 _ _ rfl rfl (by kernel_rfl)
      rw [if_pos (by rfl)]
      intro K hK
      clear hF hU hsz
      obtain ⟨q1, q2, q3⟩ := eval_rest a
      generalize hρ : a.eval = ρ
      rw [hρ] at q1 q2 q3 e21
      clear hρ
      have u1 := OpUp_value Try.prog K
      have u2 := OpUp_enter Try.prog K
      go_simp
      exact hK _ _ (Stood.refl _) rfl
    refine StepsOK.cons ?_ ?_
    · -- 2: Go.Op.load 22 (Go.Operand.tmp 22)
      intro a w1 hR1 hF hU hsz
      have e22 : a.eval (.tmp 22) = _ := hF 1 _ _ rfl rfl (by kernel_rfl)
      rw [if_pos (by rfl)]
      intro K hK
      clear hF hU hsz
      have hld := ((Stood.cur hR1).cell (p := ⟨b, off, none⟩) hbl).trans hc0
      obtain ⟨q1, q2, q3⟩ := eval_rest a
      generalize hρ : a.eval = ρ
      rw [hρ] at q1 q2 q3 e22
      clear hρ
      have u1 := OpUp_value Try.prog K
      have u2 := OpUp_enter Try.prog K
      go_simp
      exact hK _ _ (Stood.refl _) rfl
    refine StepsOK.cons ?_ ?_
    · -- 3: Go.Op.convert 22 3 (Go.Operand.tmp 23)
      intro a w1 hR1 hF hU hsz
      have e23 : a.eval (.tmp 23) = _ := hF 2 _ _ rfl rfl (by kernel_rfl)
      rw [if_pos (by rfl)]
      intro K hK
      clear hF hU hsz
      obtain ⟨q1, q2, q3⟩ := eval_rest a
      generalize hρ : a.eval = ρ
      rw [hρ] at q1 q2 q3 e23
      clear hρ
      have u1 := OpUp_value Try.prog K
      have u2 := OpUp_enter Try.prog K
      go_simp
      exact hK _ _ (Stood.refl _) rfl
    refine StepsOK.cons ?_ ?_
    · -- 4: Go.Op.move (Go.Operand.tmp 0)
      intro a w1 hR1 hF hU hsz
      have e0 : a.eval (.tmp 0) = _ := hU 0 (by kernel_rfl)
      rw [if_pos (by rfl)]
      intro K hK
      clear hF hU hsz
      obtain ⟨q1, q2, q3⟩ := eval_rest a
      generalize hρ : a.eval = ρ
      rw [hρ] at q1 q2 q3 e0
      clear hρ
      have u1 := OpUp_value Try.prog K
      have u2 := OpUp_enter Try.prog K
      go_simp
      exact hK _ _ (Stood.refl _) rfl
    refine StepsOK.cons ?_ ?_
    · -- 5: Go.Op.slice 28 (Go.Operand.tmp 25) (some (Go.Operand.const (Go.Value.int Go.IntK
      intro a w1 hR1 hF hU hsz
      have e25 : a.eval (.tmp 25) = _ := hF 4 _ _ rfl rfl (by kernel_rfl)
      rw [if_pos (by rfl)]
      intro K hK
      clear hF hU hsz
      obtain ⟨q1, q2, q3⟩ := eval_rest a
      generalize hρ : a.eval = ρ
      rw [hρ] at q1 q2 q3 e25
      clear hρ
      have u1 := OpUp_value Try.prog K
      have u2 := OpUp_enter Try.prog K
      go_simp
      rw [if_pos (show (7 : Int) ≤ (c : Int) by omega), if_neg (show ¬ c = 2 by omega)]
      exact hK _ _ (Stood.refl _) rfl
    refine StepsOK.cons ?_ ?_
    · -- 6: Go.Op.call { callee := Go.Callee.value (Go.Operand.func 99), args := #[Go.Operan
      intro a w1 hR1 hF hU hsz
      have e26 : a.eval (.tmp 26) = _ := hF 5 _ _ rfl rfl (by kernel_rfl)
      rw [if_pos (by rfl)]
      intro K hK
      clear hF hU hsz
      obtain ⟨q1, q2, q3⟩ := eval_rest a
      generalize hρ : a.eval = ρ
      rw [hρ] at q1 q2 q3 e26
      clear hρ
      have u1 := OpUp_value Try.prog K
      have u2 := OpUp_enter Try.prog K
      go_simp
      refine (KBY.out w1 _ (HRS.out.below (Stood.cur hR1))).mono ?_
      rintro e w' ⟨⟨B4, d4, rfl, ho4⟩, hb⟩
      exact ⟨_, rfl, hK _ _ hb ⟨B4, d4, rfl, ho4.rd, ho4.cap.1, ho4.cap.2⟩⟩
    refine StepsOK.cons ?_ ?_
    · -- 7: Go.Op.move (Go.Operand.tmp 0)
      intro a w1 hR1 hF hU hsz
      have e0 : a.eval (.tmp 0) = _ := hU 0 (by kernel_rfl)
      rw [if_pos (by rfl)]
      intro K hK
      clear hF hU hsz
      obtain ⟨q1, q2, q3⟩ := eval_rest a
      generalize hρ : a.eval = ρ
      rw [hρ] at q1 q2 q3 e0
      clear hρ
      have u1 := OpUp_value Try.prog K
      have u2 := OpUp_enter Try.prog K
      go_simp
      exact hK _ _ (Stood.refl _) rfl
    refine StepsOK.cons ?_ ?_
    · -- 8: Go.Op.indexAddr 28 (Go.Operand.tmp 28) (Go.Operand.const (Go.Value.int Go.IntKin
      intro a w1 hR1 hF hU hsz
      have e28 : a.eval (.tmp 28) = _ := hF 7 _ _ rfl rfl (by kernel_rfl)
      rw [if_pos (by rfl)]
      intro K hK
      clear hF hU hsz
      obtain ⟨q1, q2, q3⟩ := eval_rest a
      generalize hρ : a.eval = ρ
      rw [hρ] at q1 q2 q3 e28
      clear hρ
      have u1 := OpUp_value Try.prog K
      have u2 := OpUp_enter Try.prog K
      go_simp
      exact hK _ _ (Stood.refl _) rfl
    refine StepsOK.cons ?_ ?_
    · -- 9: Go.Op.load 22 (Go.Operand.tmp 29)
      intro a w1 hR1 hF hU hsz
      have e29 : a.eval (.tmp 29) = _ := hF 8 _ _ rfl rfl (by kernel_rfl)
      rw [if_pos (by rfl)]
      intro K hK
      clear hF hU hsz
      have hld := ((Stood.cur hR1).cell (p := ⟨b, off + 1, none⟩) hbl).trans hc1
      obtain ⟨q1, q2, q3⟩ := eval_rest a
      generalize hρ : a.eval = ρ
      rw [hρ] at q1 q2 q3 e29
      clear hρ
      have u1 := OpUp_value Try.prog K
      have u2 := OpUp_enter Try.prog K
      go_simp
      exact hK _ _ (Stood.refl _) rfl
    refine StepsOK.cons ?_ ?_
    · -- 10: Go.Op.slice 142 (Go.Operand.tmp 27) none (some (Go.Operand.tmp 30)) none
      intro a w1 hR1 hF hU hsz
      have e27 := hF 6 _ _ rfl rfl (by kernel_rfl)
      obtain ⟨B27, d27, e27, r27⟩ := e27
      have e27 : a.eval (.tmp 27) = _ := e27
      have e30 : a.eval (.tmp 30) = _ := hF 9 _ _ rfl rfl (by kernel_rfl)
      rw [if_pos (by rfl)]
      intro K hK
      clear hF hU hsz
      obtain ⟨b_, o_, rfl, _⟩ := r27.1.at_ (k := 0) (by rw [HBL.out]; omega)
      have hcp : (n1 : Int) ≤ (d27 : Int) := by have h1 := r27.2.1; rw [HBL.out] at h1; omega
      have hcp2 : n1 ≤ d27 := by omega
      obtain ⟨q1, q2, q3⟩ := eval_rest a
      generalize hρ : a.eval = ρ
      rw [hρ] at q1 q2 q3 e27 e30
      clear hρ
      have u1 := OpUp_value Try.prog K
      have u2 := OpUp_enter Try.prog K
      go_simp
      exact hK _ _ (Stood.refl _) ⟨some ⟨b_, o_, none⟩, d27, by rw [HTL.out], HTK.out _ _ r27.1, by rw [HTL.out]; unfold maxLen; omega⟩
    refine StepsOK.cons ?_ ?_
    · -- 11: Go.Op.convert 142 9 (Go.Operand.tmp 31)
      intro a w1 hR1 hF hU hsz
      have e31 := hF 10 _ _ rfl rfl (by kernel_rfl)
      obtain ⟨B31, d31, e31, r31, l31⟩ := e31
      have e31 : a.eval (.tmp 31) = _ := e31
      rw [if_pos (by rfl)]
      intro K hK
      clear hF hU hsz
      have hstr := run_str (P := Try.prog) w1 142 9 5 Try.underlying142 Try.underlying5 Try.underlying9 B31 _ d31 r31
      obtain ⟨q1, q2, q3⟩ := eval_rest a
      generalize hρ : a.eval = ρ
      rw [hρ] at q1 q2 q3 e31
      clear hρ
      have u1 := OpUp_value Try.prog K
      have u2 := OpUp_enter Try.prog K
      go_simp
      exact hK _ _ (Stood.refl _) rfl
    refine StepsOK.cons ?_ ?_
    · -- 12: Go.Op.build 111 #[(0, Go.Operand.tmp 24), (1, Go.Operand.tmp 32)]
      intro a w1 hR1 hF hU hsz
      have e24 : a.eval (.tmp 24) = _ := hF 3 _ _ rfl rfl (by kernel_rfl)
      have e32 : a.eval (.tmp 32) = _ := hF 11 _ _ rfl rfl (by kernel_rfl)
      rw [if_pos (by rfl)]
      intro K hK
      clear hF hU hsz
      obtain ⟨q1, q2, q3⟩ := eval_rest a
      generalize hρ : a.eval = ρ
      rw [hρ] at q1 q2 q3 e24 e32
      clear hρ
      have u1 := OpUp_value Try.prog K
      have u2 := OpUp_enter Try.prog K
      go_simp
      exact hK _ _ (Stood.refl _) rfl
    refine StepsOK.cons ?_ ?_
    · -- 13: Go.Op.alloc 111
      intro a w1 hR1 hF hU hsz
      rw [if_pos (by rfl)]
      intro K hK
      clear hF hU hsz
      obtain ⟨q1, q2, q3⟩ := eval_rest a
      generalize hρ : a.eval = ρ
      rw [hρ] at q1 q2 q3
      clear hρ
      have u1 := OpUp_value Try.prog K
      have u2 := OpUp_enter Try.prog K
      go_simp
      exact hK _ _ ((Below.refl _ _).alloc (Nat.le_refl _) _) ⟨_, rfl, by have h1 := hR1.size; simp at h1 ⊢; omega, heap_alloc_new w1 _⟩
    exact StepsOK.nil
  case hend =>
    intro vs0 w1 hR1 hH0
    obtain ⟨vs1, rfl, hH1⟩ := hH0.eq_
    obtain ⟨vs2, rfl, hH2⟩ := hH1.eq_
    obtain ⟨vs3, rfl, hH3⟩ := hH2.eq_
    obtain ⟨vs4, rfl, hH4⟩ := hH3.eq_
    obtain ⟨vs5, rfl, hH5⟩ := hH4.eq_
    obtain ⟨vs6, rfl, hH6⟩ := hH5.eq_
    obtain ⟨v6, vs7, rfl, hv6, hH7⟩ := hH6.cons
    obtain ⟨vs8, rfl, hH8⟩ := hH7.eq_
    obtain ⟨vs9, rfl, hH9⟩ := hH8.eq_
    obtain ⟨vs10, rfl, hH10⟩ := hH9.eq_
    obtain ⟨v10, vs11, rfl, hv10, hH11⟩ := hH10.cons
    obtain ⟨vs12, rfl, hH12⟩ := hH11.eq_
    obtain ⟨vs13, rfl, hH13⟩ := hH12.eq_
    obtain ⟨v13, vs14, rfl, hv13, hH14⟩ := hH13.cons
    obtain rfl := hH14.nil
    clear hH0 hH1 hH2 hH3 hH4 hH5 hH6 hH7 hH8 hH9 hH10 hH11 hH12 hH13 hH14
    simp only [List.dropLast_cons_cons, List.dropLast_singleton, putAll, Act.put, List.setIfInBounds_toArray, List.set_cons_zero, List.set_cons_succ]
    obtain ⟨q, rfl, hq1, hq2⟩ := hv13
    have HB1 := Lib.hid ((Stood.cur hR1) : Below _ _ _)
    rw [HSY.out]
    clear hv6 hv10
    obtain ⟨s0, s1⟩ := cells2 hq2
    obtain ⟨t0, t1⟩ := frozen2 hq2
    have hq3 := heap_set2 hq2 (.int .i64 x0.toInt) (.string st)
    have HB2 := Lib.hid ((HB1.out.setCell (p := ⟨q, 0, none⟩) (show (w.alloc (.cells #[.int .i64 0, .string ⟨#[]⟩] 111)).heap.size ≤ q by rw [hsz0]; omega) (.int .i64 x0.toInt)).setCell (p := ⟨q, 1, none⟩) (show (w.alloc (.cells #[.int .i64 0, .string ⟨#[]⟩] 111)).heap.size ≤ q by rw [hsz0]; omega) (.string st))
    obtain ⟨r0, r1⟩ := cells2 hq3
    have HQ := Lib.hid hq3
    clear hq2 hq3
    unfold slV at KPS
    have HLN := Lib.hid (show (slotW x0.toInt st).length ≤ maxLen by rw [slotW_len]; unfold maxLen; split <;> simp)
    generalize slotW x0.toInt st = nw at *
    go_wp2_with fail
    refine (KPS.out _).mono ?_
    rintro e wp ⟨⟨BP, dP, rfl, hown⟩, hbp⟩
    have HQ := Lib.hid (heap_below HQ.out hbp)
    have HB3 := Lib.hid (HB2.out.trans (hbp.mono HB2.out.size))
    have HRP := Lib.hid hown.rd
    clear hown hbp s0 s1 t0 t1 r0 r1
    have HRX := Lib.hid (HRW.out.below HB3.out)
    have KE := Lib.hid (show Calls Try.prog 79 #[.slice BP nw.length dP, .slice (some ⟨b, off, none⟩) 8 c] wp (fun e w' => e = .returned (.bool (nw == xs)) ∧ Drawn wp w') by
      have h9 := refSame_any nw xs BP (some ⟨b, off, none⟩) dP c wp HRP.out HRX.out HLN.out (by rw [HLL.out]; unfold maxLen; simp)
      rw [HLL.out] at h9
      exact h9)
    go_wp2_with fail
    refine KE.out.mono ?_
    rintro e we ⟨rfl, hd⟩
    have hbd := hd.below wp.heap.size
    have HQ := Lib.hid (heap_below HQ.out hbd)
    have HB4 := Lib.hid (HB3.out.trans (hbd.mono HB3.out.size))
    clear hd hbd HRX HRP KE
    rw [← HOK.out]
    have hh2 := (HB4.out.block w.heap.size (by rw [hsz0]; omega)).trans HZC.out
    obtain ⟨y0, y1⟩ := cells2 hh2
    obtain ⟨z0, z1⟩ := frozen2 hh2
    have HWP := Lib.hid (HW.out.trans (HB4.out.mono HW.out.size))
    cases hq : slotOk xs with
    | false =>
      have HZ1 := Lib.hid (HZ.out hq)
      have HNO := Lib.hid hq
      clear hq
      have hh3 := heap_set2 hh2 (.int .i64 0) (.string ⟨#[]⟩)
      have HWF := Lib.hid ((HWP.out.setCell (p := ⟨w.heap.size, 0, none⟩) (Nat.le_refl _) (.int .i64 0)).setCell (p := ⟨w.heap.size, 1, none⟩) (Nat.le_refl _) (.string ⟨#[]⟩))
      obtain ⟨r0, r1⟩ := cells2 hh3
      clear hh2 hh3
      go_wp2
      refine bodyPost_ret (v := .tuple #[.agg #[.int .i64 0, .string ⟨#[]⟩], .bool false]) ?_ rfl ⟨by rw [HZ1.out, HNO.out], HWF.out⟩
      unfold results
      rw [show Try.f69.results = #[.cell 2 111, .tmp 3] from rfl]
      go_simp
      try rfl
    | true =>
      have HV2 := Lib.hid (HV.out hq)
      have HNO := Lib.hid hq
      clear hq
      have hh3 := heap_set2 hh2 (.int .i64 x0.toInt) (.string st)
      have HWF := Lib.hid ((HWP.out.setCell (p := ⟨w.heap.size, 0, none⟩) (Nat.le_refl _) (.int .i64 x0.toInt)).setCell (p := ⟨w.heap.size, 1, none⟩) (Nat.le_refl _) (.string st))
      obtain ⟨r0, r1⟩ := cells2 hh3
      obtain ⟨l0, l1⟩ := cells2 HQ.out
      clear hh2 hh3
      go_wp2
      refine bodyPost_ret (v := .tuple #[.agg #[(.int .i64 x0.toInt), (.string st)], .bool true]) ?_ rfl ⟨by rw [HV2.out.1, HV2.out.2, HNO.out]; rfl, HWF.out⟩
      unfold results
      rw [show Try.f69.results = #[.cell 2 111, .tmp 3] from rfl]
      go_simp
      try rfl
end Go.Proofs.Ytgkojedgamglgaa
