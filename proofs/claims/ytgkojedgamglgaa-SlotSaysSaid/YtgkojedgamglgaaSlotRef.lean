/- The walks of the reference's Name, GoodSlot, PutSlot. No condition. -/
import Derived.Test.YtgkojedgamglgaaSlotW1
import Derived.Test.YtgkojedgamglgaaSlotPad
import Derived.Test.YtgkojedgamglgaaRefWords
import Derived.Test.YtgkojedgamglgaaSealRefWalks
import Derived.Test.YtgkojedgamglgaaHeadWalks2
import Derived.Test.YtgkojedgamglgaaRegion3
namespace Go.Proofs.Ytgkojedgamglgaa
open Go.RowKit
set_option linter.unusedVariables false
set_option linter.unusedSimpArgs false
theorem okTo_false (s : ByteArray) (k : Nat) (hk : k ≤ s.size) (h : okTo s k = false) : okTo s s.size = false := by
  cases h2 : okTo s s.size with
  | false => rfl
  | true =>
    unfold okTo at h h2
    rw [List.all_eq_true] at h2
    rw [List.all_eq_false] at h
    obtain ⟨x, hx, hn⟩ := h
    exact absurd (h2 x (by
      rw [List.take_of_length_le (show s.data.toList.length ≤ s.size from Nat.le_refl _)]
      exact List.mem_of_mem_take hx)) hn
theorem u8_zero (y : UInt8) : (((y.toNat : Int)) == 0) = (y == 0) := by
  by_cases h : y = 0
  · subst h; rfl
  · have h2 : (y == 0) = false := by rw [beq_eq_false_iff_ne]; exact h
    rw [h2, beq_eq_false_iff_ne]
    intro e
    exact h (UInt8.toNat_inj.1 (by simpa using e))
theorem u8_slash (y : UInt8) : (((y.toNat : Int)) == 47) = (y == 47) := by
  by_cases h : y = 47
  · subst h; rfl
  · have h2 : (y == 47) = false := by rw [beq_eq_false_iff_ne]; exact h
    rw [h2, beq_eq_false_iff_ne]
    intro e
    exact h (UInt8.toNat_inj.1 (by
      have : (47 : UInt8).toNat = 47 := rfl
      rw [this]; omega))
set_option maxRecDepth 100000 in
theorem refName_any (s : ByteArray) (hs : s.size ≤ maxLen) (w : World) :
    Calls Try.prog 100 #[.string s] w fun e w' => e = .returned (.bool (namedB s)) ∧ w = w' := by
  unfold maxLen at hs
  have HN := Lib.hid (named_ok s)
  have HST := Lib.hid (fun k h => okTo_succ s k h)
  have HF := Lib.hid (fun k hk h => okTo_false s k hk h)
  have H0 := Lib.hid (show okTo s 0 = true from rfl)
  generalize namedB s = nb at *
  generalize okTo s = ok at *
  go_enter Try.func100, Try.ntmps100
  go_wp2
  go_loopw [3] (fun i wr => ∃ k : Nat, k ≤ s.size ∧ i = .int .i64 k ∧ Go.RowKit.Hid (ok k = true) ∧ w = wr) (fun i _ => s.size - (intOf i).toNat)
  case atStart => exact ⟨0, Nat.zero_le _, rfl, Lib.hid H0.out, rfl⟩
  case round =>
    obtain ⟨k, hk, rfl, hok, rfl⟩ := hrel
    have HOK := Lib.hid hok.out
    clear hok
    by_cases hlt : k < s.size
    · have e1 : IntKind.i64.wrap ((k : Int) + 1) = (k : Int) + 1 := IntWalk.i64_in _ (by omega)
      have HS := Lib.hid (HST.out k hlt)
      have HFK := Lib.hid (HF.out (k + 1) hlt)
      generalize hy : s[k] = y at *
      have z0 := u8_zero y
      have z1 := u8_slash y
      cases h0 : y == 0 with
      | true =>
        have HR := Lib.hid (show false = nb by rw [HN.out, HFK.out (by rw [HS.out, HOK.out, bne, h0]; rfl)]; rfl)
        rw [h0] at z0
        clear HS HN HFK HF HST z1 h0
        go_wp2
        go_ret
        exact ⟨ret_bool HR.out, rfl⟩
      | false =>
        rw [h0] at z0
        cases h1 : y == 47 with
        | true =>
          have HR := Lib.hid (show false = nb by rw [HN.out, HFK.out (by rw [HS.out, HOK.out, bne, bne, h0, h1]; rfl)]; rfl)
          rw [h1] at z1
          clear HS HN HFK HF HST h0 h1
          go_wp2
          go_ret
          exact ⟨ret_bool HR.out, rfl⟩
        | false =>
          have HO2 := Lib.hid (show ok (k + 1) = true by rw [HS.out, HOK.out, bne, bne, h0, h1]; rfl)
          rw [h1] at z1
          clear HS HFK h0 h1
          go_wp2
          go_roundw
          case rel => exact ⟨k + 1, by omega, by go_num, Lib.hid HO2.out, trivial⟩
          case measure => simp [intOf]; omega
    · obtain rfl : k = s.size := by omega
      have HN := Lib.hid (show nb = (decide (1 ≤ s.size) && decide (s.size ≤ 40) && !(s.toList == [46]) && !(s.toList == [46, 46])) by rw [HN.out, HOK.out]; rfl)
      clear HST HF HOK H0
      by_cases h1 : 1 ≤ s.size
      rotate_left
      · skip
        have HR := Lib.hid (show false = nb by rw [HN.out]; simp [h1])
        have q1 : ¬ 1 ≤ (s.size : Int) := by omega
        clear h1 HN
        go_wp2
        go_ret
        exact ⟨ret_bool HR.out, rfl⟩
      have q1 : 1 ≤ (s.size : Int) := by omega
      by_cases h2 : s.size ≤ 40
      rotate_left
      · skip
        have HR := Lib.hid (show false = nb by rw [HN.out]; simp [h2])
        have q2 : ¬ (s.size : Int) ≤ 40 := by omega
        clear h1 h2 HN
        go_wp2
        go_ret
        exact ⟨ret_bool HR.out, rfl⟩
      have q2 : (s.size : Int) ≤ 40 := by omega
      cases h3 : s.toList == [46] with
      | true =>
        have HR := Lib.hid (show false = nb by rw [HN.out]; simp [h3])
        clear h1 h2 HN
        go_wp2
        go_ret
        exact ⟨ret_bool HR.out, rfl⟩
      | false =>
        have HR := Lib.hid (show (!(s.toList == [46, 46])) = nb by rw [HN.out, decide_eq_true h1, decide_eq_true h2, h3]; rfl)
        clear h1 h2 HN
        go_wp2
        go_ret
        exact ⟨ret_bool HR.out, rfl⟩
set_option maxRecDepth 100000 in
theorem refGood_any (z : Int) (s : ByteArray) (hs : s.size ≤ maxLen) (w : World) :
    Calls Try.prog 70 #[slV z s] w fun e w' => e = .returned (.bool (goodS z s)) ∧ Below w.heap.size w w' := by
  have KN := Lib.hid (fun W => refName_any s hs W)
  have HG := Lib.hid (show goodS z s = (if z = 0 then s.toList == [] else decide (1 ≤ z) && decide (z ≤ 64) && namedB s) from rfl)
  generalize goodS z s = gb at *
  generalize namedB s = nb at *
  unfold slV
  have HW := Lib.hid ((Below.refl w.heap.size w).alloc (Nat.le_refl _) (.cells #[.int .i64 z, .string s] 111))
  by_cases h0 : z = 0
  · subst h0
    have k0 : ((0 : Int) == 0) = true := rfl
    cases hb : s.toList.isEmpty with
    | true =>
      have HR := Lib.hid (show true = gb by rw [HG.out, ← hb]; cases s.toList <;> rfl)
      clear HG
      go_enter Try.func70, Try.ntmps70
      go_wp2
      go_ret
      exact ⟨ret_bool HR.out, HW.out⟩
    | false =>
      have HR := Lib.hid (show false = gb by rw [HG.out, ← hb]; cases s.toList <;> rfl)
      clear HG
      go_enter Try.func70, Try.ntmps70
      go_wp2
      go_ret
      exact ⟨ret_bool HR.out, HW.out⟩
  have k0 : (z == 0) = false := by rw [beq_eq_false_iff_ne]; exact h0
  have HG := Lib.hid (show gb = (decide (1 ≤ z) && decide (z ≤ 64) && nb) by rw [HG.out, if_neg h0])
  clear h0
  by_cases h1 : 1 ≤ z
  rotate_left
  · skip
    have HR := Lib.hid (show false = gb by rw [HG.out, decide_eq_false h1]; rfl)
    clear HG
    go_enter Try.func70, Try.ntmps70
    go_wp2
    go_ret
    exact ⟨ret_bool HR.out, HW.out⟩
  by_cases h2 : z ≤ 64
  rotate_left
  · skip
    have HR := Lib.hid (show false = gb by rw [HG.out, decide_eq_false h2]; simp)
    clear HG
    go_enter Try.func70, Try.ntmps70
    go_wp2
    go_ret
    exact ⟨ret_bool HR.out, HW.out⟩
  have HR := Lib.hid (show nb = gb by rw [HG.out, decide_eq_true h1, decide_eq_true h2]; rfl)
  go_enter Try.func70, Try.ntmps70
  go_wp2_with fail
  refine (KN.out _).mono ?_
  rintro e w' ⟨rfl, rfl⟩
  go_wp2
  go_ret
  exact ⟨ret_bool HR.out, HW.out⟩
/-- A row of words of the call's own: a fact that lasts. -/
def OwnUs2 (base : Nat) (xs : List (BitVec 64)) : Fact := fun v w => ∃ (B : Option Addr) (d : Nat), v = .slice B xs.length d ∧ OwnU w base B xs d
theorem stab_ownU2 {base : Nat} {xs : List (BitVec 64)} : Stab Stood (OwnUs2 base xs) := fun v w w' ⟨B, d, e, hr⟩ h => ⟨B, d, e, hr.below h⟩
set_option maxRecDepth 100000 in
set_option maxHeartbeats 8000000 in
theorem refPut_any (z : Int) (s : ByteArray) (hsm : s.size ≤ maxLen) (w : World) :
    Calls Try.prog 71 #[slV z s] w fun e w' => (∃ B d, e = .returned (.slice B (slotW z s).length d) ∧ OwnU w' w.heap.size B (slotW z s) d) ∧ Below w.heap.size w w' := by
  have KF := Lib.hid (fun (W : World) => refGood_any z s hsm W)
  clear hsm
  cases hf : goodS z s with
  | false =>
    have HV := Lib.hid (show slotW z s = [] by unfold slotW; rw [hf]; rfl)
    rw [HV.out]
    rw [hf] at KF
    clear hf
    unfold slV at *
    have HW := Lib.hid ((Below.refl w.heap.size w).alloc (Nat.le_refl _) (.cells #[.int .i64 z, .string s] 111))
    go_enter Try.func71, Try.ntmps71
    go_wp2_with fail
    refine (KF.out _).mono ?_
    rintro e w15 ⟨rfl, hb⟩
    have HW := Lib.hid (HW.out.trans (hb.mono HW.out.size))
    clear hb
    go_wp2
    go_ret
    exact ⟨⟨none, 0, rfl, OwnU.nil_ _ _⟩, HW.out⟩
  | true =>
    have hmk := fun (W : World) => show (Instr.makeSlice 28 (.int .i64 8) (.int .i64 8)).run Try.prog W = .ok (.slice (some ⟨W.heap.size, 0, none⟩) 8 8) (W.alloc (.cells (Array.replicate 8 (U 0#64)) 22)) from make_U 8 (by omega) W
    rw [hf] at KF
    by_cases ht : z = 0
    · have HV := Lib.hid (show slotW z s = List.replicate 8 0#64 by unfold slotW; rw [if_pos hf, if_pos ht])
      rw [HV.out]
      rw [show (List.replicate 8 0#64 : List (BitVec 64)).length = 8 from rfl]
      clear hf
      unfold slV at *
      subst ht
      have HW := Lib.hid ((Below.refl w.heap.size w).alloc (Nat.le_refl _) (.cells #[.int .i64 0, .string s] 111))
      have HBX := Lib.hid (heap_alloc_new w (.cells #[.int .i64 0, .string s] 111))
      go_enter Try.func71, Try.ntmps71
      go_wp2_with fail
      refine (KF.out _).mono ?_
      rintro e w1 ⟨rfl, hb⟩
      have HW := Lib.hid (HW.out.trans (hb.mono HW.out.size))
      have HBX := Lib.hid (heap_below HBX.out hb)
      clear hb
      have HO := Lib.hid (OwnU.rep w1 w.heap.size 8 HW.out.size (by unfold maxLen; omega))
      have hba : Below w1.heap.size w1 (w1.alloc (.cells (Array.replicate 8 (U 0#64)) 22)) := (Below.refl _ _).alloc (Nat.le_refl _) _
      have HW := Lib.hid (HW.out.trans (hba.mono HW.out.size))
      obtain ⟨c0, c1⟩ := cells2 HBX.out
      clear hba
      go_wp2
      go_ret
      exact ⟨⟨_, 8, rfl, HO.out⟩, HW.out⟩
    · have HV := Lib.hid (show slotW z s = slotB z s ++ [sealOf (slotB z s)] by unfold slotW; rw [if_pos hf, if_neg ht])
      have hs40 := (good_parts hf ht).2.2
      have HWD := Lib.hid (words_padB s hs40)
      have HPL := Lib.hid (padB_len s hs40)
      have HBL := Lib.hid (slotB_len z s)
      have HNL := Lib.hid (nameK_len s s.size)
      have HSB := Lib.hid (show [BitVec.ofInt 64 z, BitVec.ofNat 64 s.size] ++ nameK s s.size = slotB z s from rfl)
      have KPAD := Lib.hid (fun W q cap fz h1 h2 h3 m hm => pad_run W q cap s fz hs40 h1 h2 h3 m hm)
      have KW := Lib.hid (fun W A c h hn => refWords_any (padB s) A c W h hn)
      rw [HWD.out] at KW
      rw [HPL.out] at KW
      rw [HV.out]
      generalize padB s = pb at *
      generalize nameK s s.size = nk at *
      generalize slotB z s = sb at *
      clear hf HV hmk HWD
      unfold slV at *
      have ht0 : (z == 0) = false := by rw [beq_eq_false_iff_ne]; exact ht
      clear ht
      have HA0 := Lib.hid ((Below.refl w.heap.size w).alloc (Nat.le_refl _) (.cells #[.int .i64 z, .string s] 111))
      have HA := Lib.hid (heap_alloc_new w (.cells #[.int .i64 z, .string s] 111))
      have hsz := heap_lt HA.out
      go_enter Try.func71, Try.ntmps71
      go_wp2_with fail
      refine (KF.out _).mono ?_
      rintro e w1 ⟨rfl, hb⟩
      have HW := Lib.hid hb
      clear hb
      generalize w.alloc (.cells #[.int .i64 z, .string s] 111) = wa at *
      have HBX := Lib.hid (heap_below HA.out HW.out)
      have hbx := heap_lt HBX.out
      have c1a : ∀ o : Obj, (w1.alloc o).cell? ⟨w.heap.size, 1, none⟩ = some (.string s) := fun o => (((Below.refl w1.heap.size w1).alloc (Nat.le_refl _) o).cell (p := ⟨w.heap.size, 1, none⟩) hbx).trans (cells2 HBX.out).2
      obtain ⟨c0, c1⟩ := cells2 HBX.out
      have e40 : IntKind.i64.wrap (40 - (s.size : Int)) = 40 - (s.size : Int) := IntWalk.i64_in _ (by omega)
      have hcv := run_bytes_of_string (P := Try.prog) w1 9 142 5 s Try.underlying9 Try.underlying142 Try.underlying5
      have hbR : Below w1.heap.size w1 (w1.alloc (.cells (bytesRow s (grownCap w1 s.size 0 5)) 5 ((bytesRow s (grownCap w1 s.size 0 5)).size, (bytesRow s (grownCap w1 s.size 0 5)).size + 1))).drew := ((Below.refl _ _).alloc (Nat.le_refl _) _).drew
      have hge := grownCap_ge w1 s.size 0 5
      have hbrs : (bytesRow s (grownCap w1 s.size 0 5)).size = grownCap w1 s.size 0 5 := by
        unfold bytesRow
        have : s.data.size = s.size := rfl
        simp
        omega
      go_wp2_with (first | go_skip | (at_builtin; refine stop_ ?_))
      generalize hcap : grownCap w1 s.size 0 5 = cap at *
      have hrow : (w1.alloc (.cells (bytesRow s cap) 5 ((bytesRow s cap).size, (bytesRow s cap).size + 1))).drew.heap[w1.heap.size]? = some (.cells (bytesRow s cap) 5 ((bytesRow s cap).size, (bytesRow s cap).size + 1)) := by
        show (w1.heap.push _)[w1.heap.size]? = _
        simp
      obtain ⟨m, hm⟩ : ∃ m, s.size + m = 40 := ⟨40 - s.size, by omega⟩
      have hmi : (40 - (s.size : Int)) = (m : Int) := by omega
      obtain ⟨BP, dp, w2, hrun, hrd, hbel⟩ := KPAD.out _ w1.heap.size cap _ hge (Nat.le_of_eq hbrs.symm) hrow m hm
      rw [← hmi] at hrun
      have hww2 := hbR.trans hbel
      rw [hbrs] at hrun
      have HRP := Lib.hid hrd
      have HW2 := Lib.hid (HW.out.trans (hww2.mono HW.out.size))
      unfold Stop
      refine Lib.wpList_append_run _ rfl (.tmp 14) (.tmp 18) 142 3 rfl _ _ rfl rfl _ _ hrun ?_
      have HBX2 := Lib.hid (heap_below HBX.out hww2)
      have hws2 : w.heap.size ≤ w2.heap.size := Nat.le_trans HA0.out.size HW2.out.size
      clear hrun hrd hbel hbR hrow hmi hm hge hbrs hcap KPAD c0 c1 c1a e40 hcv HBX hbx hww2
      go_wp2_with fail
      apply wp_region_tail 36 10 (Eqs _ :: Eqs _ :: Eqs _ :: Eqs _ :: Eqs _ :: Eqs _ :: Eqs _ :: (OwnUs2 w.heap.size [BitVec.ofInt 64 z, BitVec.ofNat 64 s.size]) :: Eqs _ :: (RdUs nk) :: []) rfl (by kernel_rfl) (by rfl) (stab_cons (stab_eq _) (stab_cons (stab_eq _) (stab_cons (stab_eq _) (stab_cons (stab_eq _) (stab_cons (stab_eq _) (stab_cons (stab_eq _) (stab_cons (stab_eq _) (stab_cons stab_ownU2 (stab_cons (stab_eq _) (stab_cons stab_rdU stab_nil)))))))))) (by kernel_rfl) (by kernel_rfl) (by kernel_rfl) (by kernel_rfl)
      case hstep =>
        simp only [List.take_succ_cons, List.take_zero]
        refine StepsOK.cons ?_ ?_
        · -- 0: Go.Op.fieldAddr 111 (Go.Operand.tmp 1) 0
          intro a w1 hR1 hF hU hsz
          have e1 : a.eval (.tmp 1) = _ := hU 1 (by kernel_rfl)
          rw [if_pos (by rfl)]
          intro K hK
          clear hF hU hsz
          obtain ⟨q1, q2, q3⟩ := eval_rest a
          generalize hρ : a.eval = ρ
          rw [hρ] at q1 q2 q3 e1
          clear hρ
          have u1 := OpUp_value Try.prog K
          have u2 := OpUp_enter Try.prog K
          go_simp
          exact hK _ _ (Stood.refl _) rfl
        refine StepsOK.cons ?_ ?_
        · -- 1: Go.Op.load 3 (Go.Operand.tmp 20)
          intro a w1 hR1 hF hU hsz
          have e20 : a.eval (.tmp 20) = _ := hF 0 _ _ rfl rfl (by kernel_rfl)
          rw [if_pos (by rfl)]
          intro K hK
          clear hF hU hsz
          obtain ⟨c0_, c1_⟩ := cells2 (heap_below HBX2.out (Stood.cur hR1))
          obtain ⟨q1, q2, q3⟩ := eval_rest a
          generalize hρ : a.eval = ρ
          rw [hρ] at q1 q2 q3 e20
          clear hρ
          have u1 := OpUp_value Try.prog K
          have u2 := OpUp_enter Try.prog K
          go_simp
          exact hK _ _ (Stood.refl _) rfl
        refine StepsOK.cons ?_ ?_
        · -- 2: Go.Op.convert 3 22 (Go.Operand.tmp 21)
          intro a w1 hR1 hF hU hsz
          have e21 : a.eval (.tmp 21) = _ := hF 1 _ _ rfl rfl (by kernel_rfl)
          rw [if_pos (by rfl)]
          intro K hK
          clear hF hU hsz
          obtain ⟨q1, q2, q3⟩ := eval_rest a
          generalize hρ : a.eval = ρ
          rw [hρ] at q1 q2 q3 e21
          clear hρ
          have u1 := OpUp_value Try.prog K
          have u2 := OpUp_enter Try.prog K
          go_simp
          exact hK _ _ (Stood.refl _) rfl
        refine StepsOK.cons ?_ ?_
        · -- 3: Go.Op.fieldAddr 111 (Go.Operand.tmp 1) 1
          intro a w1 hR1 hF hU hsz
          have e1 : a.eval (.tmp 1) = _ := hU 1 (by kernel_rfl)
          rw [if_pos (by rfl)]
          intro K hK
          clear hF hU hsz
          obtain ⟨q1, q2, q3⟩ := eval_rest a
          generalize hρ : a.eval = ρ
          rw [hρ] at q1 q2 q3 e1
          clear hρ
          have u1 := OpUp_value Try.prog K
          have u2 := OpUp_enter Try.prog K
          go_simp
          exact hK _ _ (Stood.refl _) rfl
        refine StepsOK.cons ?_ ?_
        · -- 4: Go.Op.load 9 (Go.Operand.tmp 23)
          intro a w1 hR1 hF hU hsz
          have e23 : a.eval (.tmp 23) = _ := hF 3 _ _ rfl rfl (by kernel_rfl)
          rw [if_pos (by rfl)]
          intro K hK
          clear hF hU hsz
          obtain ⟨c0_, c1_⟩ := cells2 (heap_below HBX2.out (Stood.cur hR1))
          obtain ⟨q1, q2, q3⟩ := eval_rest a
          generalize hρ : a.eval = ρ
          rw [hρ] at q1 q2 q3 e23
          clear hρ
          have u1 := OpUp_value Try.prog K
          have u2 := OpUp_enter Try.prog K
          go_simp
          exact hK _ _ (Stood.refl _) rfl
        refine StepsOK.cons ?_ ?_
        · -- 5: Go.Op.call { callee := Go.Callee.builtin Go.Builtin.len, args := #[Go.Operand.tm
          intro a w1 hR1 hF hU hsz
          have e24 : a.eval (.tmp 24) = _ := hF 4 _ _ rfl rfl (by kernel_rfl)
          rw [if_pos (by rfl)]
          intro K hK
          clear hF hU hsz
          obtain ⟨q1, q2, q3⟩ := eval_rest a
          generalize hρ : a.eval = ρ
          rw [hρ] at q1 q2 q3 e24
          clear hρ
          have u1 := OpUp_value Try.prog K
          have u2 := OpUp_enter Try.prog K
          go_simp
          exact hK _ _ (Stood.refl _) rfl
        refine StepsOK.cons ?_ ?_
        · -- 6: Go.Op.convert 3 22 (Go.Operand.tmp 25)
          intro a w1 hR1 hF hU hsz
          have e25 : a.eval (.tmp 25) = _ := hF 5 _ _ rfl rfl (by kernel_rfl)
          rw [if_pos (by rfl)]
          intro K hK
          clear hF hU hsz
          obtain ⟨q1, q2, q3⟩ := eval_rest a
          generalize hρ : a.eval = ρ
          rw [hρ] at q1 q2 q3 e25
          clear hρ
          have u1 := OpUp_value Try.prog K
          have u2 := OpUp_enter Try.prog K
          go_simp
          exact hK _ _ (Stood.refl _) rfl
        refine StepsOK.cons ?_ ?_
        · -- 7: Go.Op.buildSlice 28 2 #[(0, Go.Operand.tmp 22), (1, Go.Operand.tmp 26)]
          intro a w1 hR1 hF hU hsz
          have e22 : a.eval (.tmp 22) = _ := hF 2 _ _ rfl rfl (by kernel_rfl)
          have e26 : a.eval (.tmp 26) = _ := hF 6 _ _ rfl rfl (by kernel_rfl)
          rw [if_pos (by rfl)]
          intro K hK
          clear hF hU hsz
          obtain ⟨q1, q2, q3⟩ := eval_rest a
          generalize hρ : a.eval = ρ
          rw [hρ] at q1 q2 q3 e22 e26
          clear hρ
          have u1 := OpUp_value Try.prog K
          have u2 := OpUp_enter Try.prog K
          go_simp
          exact hK _ _ ((Below.refl _ _).alloc (Nat.le_refl _) _) ⟨_, 2, rfl, OwnU.lit w1 w.heap.size [BitVec.ofInt 64 z, BitVec.ofNat 64 s.size] (Nat.le_trans hws2 hR1.size) (by unfold maxLen; simp)⟩
        refine StepsOK.cons ?_ ?_
        · -- 8: Go.Op.move (Go.Operand.tmp 3)
          intro a w1 hR1 hF hU hsz
          have e3 : a.eval (.tmp 3) = _ := hU 3 (by kernel_rfl)
          rw [if_pos (by rfl)]
          intro K hK
          clear hF hU hsz
          obtain ⟨q1, q2, q3⟩ := eval_rest a
          generalize hρ : a.eval = ρ
          rw [hρ] at q1 q2 q3 e3
          clear hρ
          have u1 := OpUp_value Try.prog K
          have u2 := OpUp_enter Try.prog K
          go_simp
          exact hK _ _ (Stood.refl _) rfl
        refine StepsOK.cons ?_ ?_
        · -- 9: Go.Op.call { callee := Go.Callee.value (Go.Operand.func 101), args := #[Go.Opera
          intro a w1 hR1 hF hU hsz
          have e28 : a.eval (.tmp 28) = _ := hF 8 _ _ rfl rfl (by kernel_rfl)
          rw [if_pos (by rfl)]
          intro K hK
          clear hF hU hsz
          obtain ⟨q1, q2, q3⟩ := eval_rest a
          generalize hρ : a.eval = ρ
          rw [hρ] at q1 q2 q3 e28
          clear hρ
          have u1 := OpUp_value Try.prog K
          have u2 := OpUp_enter Try.prog K
          go_simp
          refine (KW.out w1 BP dp (HRP.out.below (Stood.cur hR1)) (by omega)).mono ?_
          rintro e w' ⟨⟨B4, d4, rfl, ho4⟩, hb⟩
          exact ⟨_, rfl, hK _ _ hb ⟨B4, d4, rfl, ho4.rd, by rw [HNL.out]; unfold maxLen; omega⟩⟩
        exact StepsOK.nil
      case hend =>
        intro vs0 w1 hR1 hH0
        obtain ⟨vs1, rfl, hH1⟩ := hH0.eq_
        obtain ⟨vs2, rfl, hH2⟩ := hH1.eq_
        obtain ⟨vs3, rfl, hH3⟩ := hH2.eq_
        obtain ⟨vs4, rfl, hH4⟩ := hH3.eq_
        obtain ⟨vs5, rfl, hH5⟩ := hH4.eq_
        obtain ⟨vs6, rfl, hH6⟩ := hH5.eq_
        obtain ⟨vs7, rfl, hH7⟩ := hH6.eq_
        obtain ⟨v7, vs8, rfl, hv7, hH8⟩ := hH7.cons
        obtain ⟨vs9, rfl, hH9⟩ := hH8.eq_
        obtain ⟨v9, vs10, rfl, hv9, hH10⟩ := hH9.cons
        obtain rfl := hH10.nil
        clear hH0 hH1 hH2 hH3 hH4 hH5 hH6 hH7 hH8 hH9 hH10
        simp only [List.take_succ_cons, List.take_zero, putAll, Act.put, List.setIfInBounds_toArray, List.set_cons_zero, List.set_cons_succ]
        obtain ⟨B7, d7, rfl, ho7⟩ := hv7
        obtain ⟨B9, d9, rfl, hr9, hl9⟩ := hv9
        have HW3 := Lib.hid (HA0.out.trans ((HW2.out.trans ((Stood.cur hR1).mono HW2.out.size)).mono HA0.out.size))
        clear hl9
        go_wp2_with (first | go_skip | (at_builtin; refine stop_ ?_))
        refine appU (.tmp 27) (.tmp 29) rfl rfl w.heap.size B7 [BitVec.ofInt 64 z, BitVec.ofNat 64 s.size] _ d7 rfl rfl ho7 B9 nk _ d9 rfl rfl hr9 (by rw [HNL.out]; simp) HW3.out.size ?_
        intro B ys d w4 hys hown hg4 _
        obtain rfl : ys = sb := hys.trans HSB.out
        have HB4 := Lib.hid (HW3.out.grown hg4 HW3.out.size (fun j hj => (ho7.lt j hj).1))
        have HO4 := Lib.hid hown
        clear hys hown hg4 ho7 hr9
        have KO := refOf_any ys B d w4 HO4.out.rd (by rw [HBL.out]; decide)
        unfold Stop
        go_wp2_with fail
        refine KO.mono ?_
        rintro e w5 ⟨rfl, hd⟩
        have HB5 := Lib.hid (HB4.out.trans ((hd.below _).mono HB4.out.size))
        have HO5 := Lib.hid (HO4.out.below (hd.below _))
        clear hd KO
        go_wp2_with (first | go_skip | (at_builtin; refine stop_ ?_))
        have hba : Below w5.heap.size w5 (w5.alloc (.cells #[U (sealOf ys)] 22)) := (Below.refl _ _).alloc (Nat.le_refl _) _
        refine appU (.tmp 31) (.tmp 34) rfl rfl w.heap.size B ys _ d rfl rfl (HO5.out.below hba) (some ⟨w5.heap.size, 0, none⟩) [sealOf ys] 1 1 rfl rfl (RdU.new1 _ _ _) (by rw [HBL.out]; simp) (by have := HB5.out.size; simp; omega) ?_
        intro B2 zs d2 w6 hzs hown2 hg6 _
        have HB6 := Lib.hid ((HB5.out.alloc HB5.out.size (.cells #[U (sealOf ys)] 22)).grown hg6 (by have := HB5.out.size; simp; omega) (fun j hj => ((HO5.out.below hba).lt j hj).1))
        obtain rfl : zs = ys ++ [sealOf ys] := hzs
        have HO6 := Lib.hid hown2
        clear hown2 hg6 hba
        unfold Stop
        go_wp2
        go_ret
        exact ⟨⟨B2, d2, by rw [List.length_append]; rfl, HO6.out⟩, HB6.out⟩
end Go.Proofs.Ytgkojedgamglgaa
