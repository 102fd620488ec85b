/- The walks of slices.Equal of words and of head.Get. Condition: the slices can be read. -/
import Derived.Test.YtgkojedgamglgaaHeadWalks
import Derived.Test.YtgkojedgamglgaaRegion2
import Derived.BigQuiet
namespace Go.Proofs.Ytgkojedgamglgaa
open Go.RowKit
set_option linter.unusedVariables false
set_option linter.unusedSimpArgs false
theorem take_succ_eq {α : Type} (xs ys : List α) (k : Nat) (h1 : k < xs.length) (h2 : k < ys.length) (h : xs.take k = ys.take k) (he : xs[k] = ys[k]) : xs.take (k + 1) = ys.take (k + 1) := by
  rw [List.take_succ_eq_append_getElem h1, List.take_succ_eq_append_getElem h2, h, he]

theorem Equal_any (xs ys : List (BitVec 64)) (A B : Option Addr) (c d : Nat) (w : World) (hx : RdU w A xs) (hy : RdU w B ys) (hn : xs.length ≤ maxLen) (hn2 : ys.length ≤ maxLen) :
    Calls Try.prog 75 #[.slice A xs.length c, .slice B ys.length d] w fun e w' => e = .returned (.bool (xs == ys)) ∧ Drawn w w' := by
  unfold maxLen at hn hn2
  by_cases hl : xs.length = ys.length
  · have HX := Lib.hid hx
    have HY := Lib.hid hy
    have HL := Lib.hid hl
    rw [← hl]
    have hnn : ((xs.length : Int) != (xs.length : Int)) = false := by simp
    clear hx hy hl
    go_enter Try.func75, Try.ntmps75
    go_wp2
    go_loopw [13] (fun i wr => ∃ k : Nat, k ≤ xs.length ∧ i = .int .i64 k ∧ xs.take k = ys.take k ∧ Drawn w wr) (fun i _ => xs.length - (intOf i).toNat)
    case atStart => exact ⟨0, Nat.zero_le _, rfl, rfl, Drawn.refl _⟩
    case round =>
      obtain ⟨k, hk, rfl, ht, hd⟩ := hrel
      have HT := Lib.hid ht
      have HD := Lib.hid hd
      clear ht hd
      by_cases hlt : k < xs.length
      · obtain ⟨b, off, rfl, hc⟩ := (HX.out.drawn HD.out).at_ hlt
        have hlt2 : k < ys.length := by rw [← HL.out]; exact hlt
        obtain ⟨b2, off2, rfl, hc2⟩ := (HY.out.drawn HD.out).at_ hlt2
        have h1 := hc k hlt
        have h2 := hc2 k hlt2
        clear hc hc2
        go_wp2
        by_cases he : xs[k] = ys[k]
        · have hbe : (xs[k] != ys[k]) = false := by simp [he]
          have HT2 := Lib.hid (take_succ_eq xs ys k hlt hlt2 HT.out he)
          clear he
          go_quiet (fail)
          go_wp2
          go_roundw
          case rel => exact ⟨k + 1, by omega, by go_num, HT2.out, HD.out.trans (Drawn.some_ _ _)⟩
          case measure => simp [intOf]; omega
        · have hbe : (xs[k] != ys[k]) = true := by simp [he]
          have HF := Lib.hid (show (xs == ys) = false by
            rw [beq_eq_false_iff_ne]; intro h; exact he (by subst h; rfl))
          clear he
          go_quiet (fail)
          go_wp2
          go_ret
          exact ⟨ret_bool HF.out.symm, HD.out.trans (Drawn.some_ _ _)⟩
      · have HF := Lib.hid (show (xs == ys) = true by
          have h := HT.out
          have hle := HL.out
          rw [List.take_of_length_le (by omega), List.take_of_length_le (by omega)] at h
          rw [h]; exact beq_self_eq_true _)
        go_wp2
        go_ret
        exact ⟨ret_bool HF.out.symm, HD.out⟩
  · have hne : ((xs.length : Int) != (ys.length : Int)) = true := by rw [bne_iff_ne]; omega
    have HF := Lib.hid (show (xs == ys) = false by
      rw [beq_eq_false_iff_ne]; intro h; exact hl (by rw [h]))
    clear hl hx hy
    go_enter Try.func75, Try.ntmps75
    go_wp2
    go_ret
    exact ⟨ret_bool HF.out.symm, Drawn.refl _⟩
/-- No head. -/
def headZ : Value := .agg #[.int .i64 0, .int .i64 0, .int .i64 0, .int .i64 0, .int .u64 0]
/-- What head.Get hands back. -/
def getV (xs : List (BitVec 64)) : Value := if headOk xs = true then .tuple #[headV (geoW xs) (xs.getD 6 0), .bool true] else .tuple #[headZ, .bool false]
/-- A block of such cells, made behind lo: a fact that lasts. -/
def BoxF (lo : Nat) (cs : Array Value) (t : TypeId) : Fact := fun v w => ∃ q, v = .pointer (some ⟨q, 0, none⟩) ∧ lo ≤ q ∧ w.heap[q]? = some (.cells cs t (0, 0))
theorem stab_box {lo : Nat} {cs : Array Value} {t : TypeId} : Stab Stood (BoxF lo cs t) := fun v w w' ⟨q, e, hl, hq⟩ h => ⟨q, e, hl, (h.block q (Array.getElem?_eq_some_iff.1 hq).1).trans hq⟩
theorem eight {α : Type} {xs : List α} (h : xs.length = 8) : ∃ x0 x1 x2 x3 x4 x5 x6 x7, xs = [x0, x1, x2, x3, x4, x5, x6, x7] := by
  match xs, h with
  | [x0, x1, x2, x3, x4, x5, x6, x7], _ => exact ⟨x0, x1, x2, x3, x4, x5, x6, x7, rfl⟩
theorem toInt_small {x : BitVec 64} (h : x.toNat ≤ 1024) : x.toInt = (x.toNat : Int) := by
  rw [BitVec.toInt_eq_toNat_cond]
  split <;> omega
theorem smallW_four {x0 x1 x2 x3 x4 x5 x6 x7 : BitVec 64} (h : smallW [x0, x1, x2, x3, x4, x5, x6, x7] = true) : x1.toNat ≤ 1024 ∧ x2.toNat ≤ 1024 ∧ x3.toNat ≤ 1024 ∧ x4.toNat ≤ 1024 := by
  unfold smallW at h
  simp at h
  exact ⟨h.1, h.2.1, h.2.2.1, h.2.2.2.1⟩
theorem slice16 {w : World} {xs : List (BitVec 64)} {b off : Nat} (hr : RdU w (some ⟨b, off, none⟩) xs) : RdU w (some ⟨b, off + 1, none⟩) ((xs.drop 1).take 5) := (hr.drop 1).take 5
set_option maxRecDepth 100000 in
set_option maxHeartbeats 8000000 in
theorem hGet_any (xs : List (BitVec 64)) (A : Option Addr) (c : Nat) (w : World) (hr : RdU w A xs) (hc : xs.length ≤ c) (hm : c ≤ maxLen) :
    Calls Try.prog 30 #[.slice A xs.length c] w fun e w' => e = .returned (getV xs) ∧ Below w.heap.size w w' := by
  unfold maxLen at hm
  have HR := Lib.hid hr
  clear hr
  have HW := Lib.hid ((Below.refl w.heap.size w).alloc (Nat.le_refl _) (.cells #[.int .i64 0, .int .i64 0, .int .i64 0, .int .i64 0, .int .u64 0] 36))
  by_cases hl : xs.length = 8
  · obtain ⟨b, off, rfl, hcell⟩ := (HR.out.below HW.out).at_ (show 0 < xs.length by omega)
    have HC := Lib.hid hcell
    have HL := Lib.hid hl
    have HS := Lib.hid (slice16 (HR.out.below HW.out))
    have HYL := Lib.hid (show ((xs.drop 1).take 5).length = 5 by simp [hl])
    clear hcell
    rw [hl]
    have h8c : 8 ≤ c := by omega
    clear hl hc
    go_enter Try.func30, Try.ntmps30
    go_wp2
    go_loopw [15] (fun i wr => ∃ k : Nat, k ≤ 5 ∧ i = .int .i64 k ∧ Go.RowKit.Hid ((((xs.drop 1).take 5).take k).all (fun v => decide (v.toNat ≤ 1024)) = true) ∧ wr = w.alloc (.cells #[.int .i64 0, .int .i64 0, .int .i64 0, .int .i64 0, .int .u64 0] 36)) (fun i _ => 5 - (intOf i).toNat)
    case atStart => exact ⟨0, by omega, rfl, Lib.hid rfl, rfl⟩
    case round =>
      obtain ⟨k, hk, rfl, hsm, rfl⟩ := hrel
      have HSM := Lib.hid hsm.out
      by_cases hlt : k < 5
      · obtain ⟨b2, off2, hA, hcells⟩ := HS.out.at_ (show k < ((xs.drop 1).take 5).length by rw [HYL.out]; exact hlt)
        cases hA
        have hk1 := hcells k (by rw [HYL.out]; exact hlt)
        have HT := Lib.hid (List.take_succ_eq_append_getElem (l := (xs.drop 1).take 5) (i := k) (by rw [HYL.out]; exact hlt))
        have HY := Lib.hid (List.getElem_mem (l := (xs.drop 1).take 5) (n := k) (by rw [HYL.out]; exact hlt))
        clear hcells hsm
        generalize ((xs.drop 1).take 5)[k]'(by rw [HYL.out]; exact hlt) = y at *
        have e1 : IntKind.i64.wrap ((k : Int) + 1) = (k : Int) + 1 := IntWalk.i64_in _ (by omega)
        by_cases hy : BitVec.ofInt 64 1024 < y
        · have hb : headOk xs = false := by
            unfold headOk
            have hs : smallW xs = false := by
              unfold smallW
              rw [Bool.eq_false_iff]
              intro hall
              have h2 := List.all_eq_true.1 hall y HY.out
              have h3 : (1024 : Nat) < y.toNat := by have := BitVec.lt_def.1 hy; simpa using this
              simp at h2
              omega
            rw [hs]
            simp
          have HB0 := Lib.hid hb
          clear hb
          go_wp2
          refine bodyPost_ret (v := .tuple #[headZ, .bool false]) ?_ rfl ⟨by unfold getV; rw [HB0.out]; rfl, HW.out⟩
          unfold results
          rw [show Try.f30.results = #[.cell 2 36, .tmp 3] from rfl]
          go_simp
          rfl
        · have hyl : y.toNat ≤ 1024 := by
            have : ¬ (1024 : Nat) < y.toNat := fun h => hy (BitVec.lt_def.2 (by simpa using h))
            omega
          have HSM2 := Lib.hid (show (((xs.drop 1).take 5).take (k + 1)).all (fun v => decide (v.toNat ≤ 1024)) = true by
            rw [HT.out, List.all_append, HSM.out]
            simp [hyl])
          clear hyl
          go_wp2
          go_roundw
          case rel => exact ⟨k + 1, by omega, by go_num, Lib.hid HSM2.out, trivial⟩
          case measure => simp [intOf]; omega
      · obtain rfl : k = 5 := by omega
        have hsm2 : smallW xs = true := by
          have h := HSM.out
          rw [List.take_of_length_le (by rw [HYL.out]; omega)] at h
          exact h
        clear hsm HSM HS HYL
        obtain ⟨x0, x1, x2, x3, x4, x5, x6, x7, rfl⟩ := eight HL.out
        obtain ⟨s1, s2, s3, s4⟩ := smallW_four hsm2
        have t1 := toInt_small s1
        have t2 := toInt_small s2
        have t3 := toInt_small s3
        have t4 := toInt_small s4
        have hc1 := HC.out 1 (by simp)
        have hc2 := HC.out 2 (by simp)
        have hc3 := HC.out 3 (by simp)
        have hc4 := HC.out 4 (by simp)
        have hc6 := HC.out 6 (by simp)
        simp only [List.getElem_cons_succ, List.getElem_cons_zero] at hc1 hc2 hc3 hc4 hc6
        have hbl : b < (w.alloc (.cells #[.int .i64 0, .int .i64 0, .int .i64 0, .int .i64 0, .int .u64 0] 36)).heap.size := cell_lt hc1
        have HSMW := Lib.hid hsm2
        clear hsm2 s1 s2 s3 s4 HC
        go_wp2_with fail
        apply wp_region_last 52 (Eqs _ :: Eqs _ :: Eqs _ :: Eqs _ :: Eqs _ :: Eqs _ :: Eqs _ :: Eqs _ :: Eqs _ :: Eqs _ :: Eqs _ :: Eqs _ :: Eqs _ :: Eqs _ :: Eqs _ :: Eqs _ :: Eqs _ :: (BoxF (w.heap.size + 1) #[.int .i64 0, .int .i64 0, .int .i64 0, .int .i64 0] 33) :: []) rfl (by kernel_rfl) (by rfl) (stab_cons (stab_eq _) (stab_cons (stab_eq _) (stab_cons (stab_eq _) (stab_cons (stab_eq _) (stab_cons (stab_eq _) (stab_cons (stab_eq _) (stab_cons (stab_eq _) (stab_cons (stab_eq _) (stab_cons (stab_eq _) (stab_cons (stab_eq _) (stab_cons (stab_eq _) (stab_cons (stab_eq _) (stab_cons (stab_eq _) (stab_cons (stab_eq _) (stab_cons (stab_eq _) (stab_cons (stab_eq _) (stab_cons (stab_eq _) (stab_cons stab_box stab_nil)))))))))))))))))) (by kernel_rfl) (by kernel_rfl) (by kernel_rfl)
        case hstep =>
          simp only [List.dropLast_cons_cons, List.dropLast_singleton]
          refine StepsOK.cons ?_ ?_
          · -- 0: Go.Op.move (Go.Operand.tmp 0)
            intro a w1 hR1 hF hU hsz
            have e0 : a.eval (.tmp 0) = _ := hU 0 (by kernel_rfl)
            rw [if_pos (by rfl)]
            intro K hK
            clear hF hU hsz
            obtain ⟨q1, q2, q3⟩ := eval_rest a
            generalize hρ : a.eval = ρ
            rw [hρ] at q1 q2 q3 e0
            clear hρ
            have u1 := OpUp_value Try.prog K
            have u2 := OpUp_enter Try.prog K
            go_simp
            exact hK _ _ (Stood.refl _) rfl
          refine StepsOK.cons ?_ ?_
          · -- 1: Go.Op.indexAddr 28 (Go.Operand.tmp 23) (Go.Operand.const (Go.Value.int Go.IntKin
            intro a w1 hR1 hF hU hsz
            have e23 : a.eval (.tmp 23) = _ := hF 0 _ _ rfl rfl (by kernel_rfl)
            rw [if_pos (by rfl)]
            intro K hK
            clear hF hU hsz
            obtain ⟨q1, q2, q3⟩ := eval_rest a
            generalize hρ : a.eval = ρ
            rw [hρ] at q1 q2 q3 e23
            clear hρ
            have u1 := OpUp_value Try.prog K
            have u2 := OpUp_enter Try.prog K
            go_simp
            exact hK _ _ (Stood.refl _) rfl
          refine StepsOK.cons ?_ ?_
          · -- 2: Go.Op.load 22 (Go.Operand.tmp 24)
            intro a w1 hR1 hF hU hsz
            have e24 : a.eval (.tmp 24) = _ := hF 1 _ _ rfl rfl (by kernel_rfl)
            rw [if_pos (by rfl)]
            intro K hK
            clear hF hU hsz
            have hld := ((Stood.cur hR1).cell (p := ⟨b, off + 1, none⟩) hbl).trans hc1
            obtain ⟨q1, q2, q3⟩ := eval_rest a
            generalize hρ : a.eval = ρ
            rw [hρ] at q1 q2 q3 e24
            clear hρ
            have u1 := OpUp_value Try.prog K
            have u2 := OpUp_enter Try.prog K
            go_simp
            exact hK _ _ (Stood.refl _) rfl
          refine StepsOK.cons ?_ ?_
          · -- 3: Go.Op.convert 22 3 (Go.Operand.tmp 25)
            intro a w1 hR1 hF hU hsz
            have e25 : a.eval (.tmp 25) = _ := hF 2 _ _ rfl rfl (by kernel_rfl)
            rw [if_pos (by rfl)]
            intro K hK
            clear hF hU hsz
            obtain ⟨q1, q2, q3⟩ := eval_rest a
            generalize hρ : a.eval = ρ
            rw [hρ] at q1 q2 q3 e25
            clear hρ
            have u1 := OpUp_value Try.prog K
            have u2 := OpUp_enter Try.prog K
            go_simp
            exact hK _ _ (Stood.refl _) rfl
          refine StepsOK.cons ?_ ?_
          · -- 4: Go.Op.move (Go.Operand.tmp 0)
            intro a w1 hR1 hF hU hsz
            have e0 : a.eval (.tmp 0) = _ := hU 0 (by kernel_rfl)
            rw [if_pos (by rfl)]
            intro K hK
            clear hF hU hsz
            obtain ⟨q1, q2, q3⟩ := eval_rest a
            generalize hρ : a.eval = ρ
            rw [hρ] at q1 q2 q3 e0
            clear hρ
            have u1 := OpUp_value Try.prog K
            have u2 := OpUp_enter Try.prog K
            go_simp
            exact hK _ _ (Stood.refl _) rfl
          refine StepsOK.cons ?_ ?_
          · -- 5: Go.Op.indexAddr 28 (Go.Operand.tmp 27) (Go.Operand.const (Go.Value.int Go.IntKin
            intro a w1 hR1 hF hU hsz
            have e27 : a.eval (.tmp 27) = _ := hF 4 _ _ rfl rfl (by kernel_rfl)
            rw [if_pos (by rfl)]
            intro K hK
            clear hF hU hsz
            obtain ⟨q1, q2, q3⟩ := eval_rest a
            generalize hρ : a.eval = ρ
            rw [hρ] at q1 q2 q3 e27
            clear hρ
            have u1 := OpUp_value Try.prog K
            have u2 := OpUp_enter Try.prog K
            go_simp
            exact hK _ _ (Stood.refl _) rfl
          refine StepsOK.cons ?_ ?_
          · -- 6: Go.Op.load 22 (Go.Operand.tmp 28)
            intro a w1 hR1 hF hU hsz
            have e28 : a.eval (.tmp 28) = _ := hF 5 _ _ rfl rfl (by kernel_rfl)
            rw [if_pos (by rfl)]
            intro K hK
            clear hF hU hsz
            have hld := ((Stood.cur hR1).cell (p := ⟨b, off + 2, none⟩) hbl).trans hc2
            obtain ⟨q1, q2, q3⟩ := eval_rest a
            generalize hρ : a.eval = ρ
            rw [hρ] at q1 q2 q3 e28
            clear hρ
            have u1 := OpUp_value Try.prog K
            have u2 := OpUp_enter Try.prog K
            go_simp
            exact hK _ _ (Stood.refl _) rfl
          refine StepsOK.cons ?_ ?_
          · -- 7: Go.Op.convert 22 3 (Go.Operand.tmp 29)
            intro a w1 hR1 hF hU hsz
            have e29 : a.eval (.tmp 29) = _ := hF 6 _ _ rfl rfl (by kernel_rfl)
            rw [if_pos (by rfl)]
            intro K hK
            clear hF hU hsz
            obtain ⟨q1, q2, q3⟩ := eval_rest a
            generalize hρ : a.eval = ρ
            rw [hρ] at q1 q2 q3 e29
            clear hρ
            have u1 := OpUp_value Try.prog K
            have u2 := OpUp_enter Try.prog K
            go_simp
            exact hK _ _ (Stood.refl _) rfl
          refine StepsOK.cons ?_ ?_
          · -- 8: Go.Op.move (Go.Operand.tmp 0)
            intro a w1 hR1 hF hU hsz
            have e0 : a.eval (.tmp 0) = _ := hU 0 (by kernel_rfl)
            rw [if_pos (by rfl)]
            intro K hK
            clear hF hU hsz
            obtain ⟨q1, q2, q3⟩ := eval_rest a
            generalize hρ : a.eval = ρ
            rw [hρ] at q1 q2 q3 e0
            clear hρ
            have u1 := OpUp_value Try.prog K
            have u2 := OpUp_enter Try.prog K
            go_simp
            exact hK _ _ (Stood.refl _) rfl
          refine StepsOK.cons ?_ ?_
          · -- 9: Go.Op.indexAddr 28 (Go.Operand.tmp 31) (Go.Operand.const (Go.Value.int Go.IntKin
            intro a w1 hR1 hF hU hsz
            have e31 : a.eval (.tmp 31) = _ := hF 8 _ _ rfl rfl (by kernel_rfl)
            rw [if_pos (by rfl)]
            intro K hK
            clear hF hU hsz
            obtain ⟨q1, q2, q3⟩ := eval_rest a
            generalize hρ : a.eval = ρ
            rw [hρ] at q1 q2 q3 e31
            clear hρ
            have u1 := OpUp_value Try.prog K
            have u2 := OpUp_enter Try.prog K
            go_simp
            exact hK _ _ (Stood.refl _) rfl
          refine StepsOK.cons ?_ ?_
          · -- 10: Go.Op.load 22 (Go.Operand.tmp 32)
            intro a w1 hR1 hF hU hsz
            have e32 : a.eval (.tmp 32) = _ := hF 9 _ _ rfl rfl (by kernel_rfl)
            rw [if_pos (by rfl)]
            intro K hK
            clear hF hU hsz
            have hld := ((Stood.cur hR1).cell (p := ⟨b, off + 3, none⟩) hbl).trans hc3
            obtain ⟨q1, q2, q3⟩ := eval_rest a
            generalize hρ : a.eval = ρ
            rw [hρ] at q1 q2 q3 e32
            clear hρ
            have u1 := OpUp_value Try.prog K
            have u2 := OpUp_enter Try.prog K
            go_simp
            exact hK _ _ (Stood.refl _) rfl
          refine StepsOK.cons ?_ ?_
          · -- 11: Go.Op.convert 22 3 (Go.Operand.tmp 33)
            intro a w1 hR1 hF hU hsz
            have e33 : a.eval (.tmp 33) = _ := hF 10 _ _ rfl rfl (by kernel_rfl)
            rw [if_pos (by rfl)]
            intro K hK
            clear hF hU hsz
            obtain ⟨q1, q2, q3⟩ := eval_rest a
            generalize hρ : a.eval = ρ
            rw [hρ] at q1 q2 q3 e33
            clear hρ
            have u1 := OpUp_value Try.prog K
            have u2 := OpUp_enter Try.prog K
            go_simp
            exact hK _ _ (Stood.refl _) rfl
          refine StepsOK.cons ?_ ?_
          · -- 12: Go.Op.move (Go.Operand.tmp 0)
            intro a w1 hR1 hF hU hsz
            have e0 : a.eval (.tmp 0) = _ := hU 0 (by kernel_rfl)
            rw [if_pos (by rfl)]
            intro K hK
            clear hF hU hsz
            obtain ⟨q1, q2, q3⟩ := eval_rest a
            generalize hρ : a.eval = ρ
            rw [hρ] at q1 q2 q3 e0
            clear hρ
            have u1 := OpUp_value Try.prog K
            have u2 := OpUp_enter Try.prog K
            go_simp
            exact hK _ _ (Stood.refl _) rfl
          refine StepsOK.cons ?_ ?_
          · -- 13: Go.Op.indexAddr 28 (Go.Operand.tmp 35) (Go.Operand.const (Go.Value.int Go.IntKin
            intro a w1 hR1 hF hU hsz
            have e35 : a.eval (.tmp 35) = _ := hF 12 _ _ rfl rfl (by kernel_rfl)
            rw [if_pos (by rfl)]
            intro K hK
            clear hF hU hsz
            obtain ⟨q1, q2, q3⟩ := eval_rest a
            generalize hρ : a.eval = ρ
            rw [hρ] at q1 q2 q3 e35
            clear hρ
            have u1 := OpUp_value Try.prog K
            have u2 := OpUp_enter Try.prog K
            go_simp
            exact hK _ _ (Stood.refl _) rfl
          refine StepsOK.cons ?_ ?_
          · -- 14: Go.Op.load 22 (Go.Operand.tmp 36)
            intro a w1 hR1 hF hU hsz
            have e36 : a.eval (.tmp 36) = _ := hF 13 _ _ rfl rfl (by kernel_rfl)
            rw [if_pos (by rfl)]
            intro K hK
            clear hF hU hsz
            have hld := ((Stood.cur hR1).cell (p := ⟨b, off + 4, none⟩) hbl).trans hc4
            obtain ⟨q1, q2, q3⟩ := eval_rest a
            generalize hρ : a.eval = ρ
            rw [hρ] at q1 q2 q3 e36
            clear hρ
            have u1 := OpUp_value Try.prog K
            have u2 := OpUp_enter Try.prog K
            go_simp
            exact hK _ _ (Stood.refl _) rfl
          refine StepsOK.cons ?_ ?_
          · -- 15: Go.Op.convert 22 3 (Go.Operand.tmp 37)
            intro a w1 hR1 hF hU hsz
            have e37 : a.eval (.tmp 37) = _ := hF 14 _ _ rfl rfl (by kernel_rfl)
            rw [if_pos (by rfl)]
            intro K hK
            clear hF hU hsz
            obtain ⟨q1, q2, q3⟩ := eval_rest a
            generalize hρ : a.eval = ρ
            rw [hρ] at q1 q2 q3 e37
            clear hρ
            have u1 := OpUp_value Try.prog K
            have u2 := OpUp_enter Try.prog K
            go_simp
            exact hK _ _ (Stood.refl _) rfl
          refine StepsOK.cons ?_ ?_
          · -- 16: Go.Op.build 33 #[(0, Go.Operand.tmp 26), (1, Go.Operand.tmp 30), (2, Go.Operand.
            intro a w1 hR1 hF hU hsz
            have e26 : a.eval (.tmp 26) = _ := hF 3 _ _ rfl rfl (by kernel_rfl)
            have e30 : a.eval (.tmp 30) = _ := hF 7 _ _ rfl rfl (by kernel_rfl)
            have e34 : a.eval (.tmp 34) = _ := hF 11 _ _ rfl rfl (by kernel_rfl)
            have e38 : a.eval (.tmp 38) = _ := hF 15 _ _ rfl rfl (by kernel_rfl)
            rw [if_pos (by rfl)]
            intro K hK
            clear hF hU hsz
            obtain ⟨q1, q2, q3⟩ := eval_rest a
            generalize hρ : a.eval = ρ
            rw [hρ] at q1 q2 q3 e26 e30 e34 e38
            clear hρ
            have u1 := OpUp_value Try.prog K
            have u2 := OpUp_enter Try.prog K
            go_simp
            exact hK _ _ (Stood.refl _) rfl
          refine StepsOK.cons ?_ ?_
          · -- 17: Go.Op.alloc 33
            intro a w1 hR1 hF hU hsz
            rw [if_pos (by rfl)]
            intro K hK
            clear hF hU hsz
            obtain ⟨q1, q2, q3⟩ := eval_rest a
            generalize hρ : a.eval = ρ
            rw [hρ] at q1 q2 q3
            clear hρ
            have u1 := OpUp_value Try.prog K
            have u2 := OpUp_enter Try.prog K
            go_simp
            exact hK _ _ ((Below.refl _ _).alloc (Nat.le_refl _) _) ⟨_, rfl, by have := hR1.size; simp at this; omega, heap_alloc_new w1 _⟩
          exact StepsOK.nil
        case hend =>
          intro vs0 w1 hR1 hH0
          obtain ⟨vs1, rfl, hH1⟩ := hH0.eq_
          obtain ⟨vs2, rfl, hH2⟩ := hH1.eq_
          obtain ⟨vs3, rfl, hH3⟩ := hH2.eq_
          obtain ⟨vs4, rfl, hH4⟩ := hH3.eq_
          obtain ⟨vs5, rfl, hH5⟩ := hH4.eq_
          obtain ⟨vs6, rfl, hH6⟩ := hH5.eq_
          obtain ⟨vs7, rfl, hH7⟩ := hH6.eq_
          obtain ⟨vs8, rfl, hH8⟩ := hH7.eq_
          obtain ⟨vs9, rfl, hH9⟩ := hH8.eq_
          obtain ⟨vs10, rfl, hH10⟩ := hH9.eq_
          obtain ⟨vs11, rfl, hH11⟩ := hH10.eq_
          obtain ⟨vs12, rfl, hH12⟩ := hH11.eq_
          obtain ⟨vs13, rfl, hH13⟩ := hH12.eq_
          obtain ⟨vs14, rfl, hH14⟩ := hH13.eq_
          obtain ⟨vs15, rfl, hH15⟩ := hH14.eq_
          obtain ⟨vs16, rfl, hH16⟩ := hH15.eq_
          obtain ⟨vs17, rfl, hH17⟩ := hH16.eq_
          obtain ⟨v17, vs18, rfl, hv17, hH18⟩ := hH17.cons
          obtain rfl := hH18.nil
          clear hH0 hH1 hH2 hH3 hH4 hH5 hH6 hH7 hH8 hH9 hH10 hH11 hH12 hH13 hH14 hH15 hH16 hH17 hH18
          simp only [List.dropLast_cons_cons, List.dropLast_singleton, putAll, Act.put, List.setIfInBounds_toArray, List.set_cons_zero, List.set_cons_succ]
          obtain ⟨q6, rfl, hq6, hh6⟩ := hv17
          have HQ6 := Lib.hid hh6
          have hz0 := Lib.cell_of_heap hh6 0
          have hz1 := Lib.cell_of_heap hh6 1
          have hz2 := Lib.cell_of_heap hh6 2
          have hz3 := Lib.cell_of_heap hh6 3
          have hf0 := Lib.frozen_of_heap hh6 0
          have hf1 := Lib.frozen_of_heap hh6 1
          have hf2 := Lib.frozen_of_heap hh6 2
          have hf3 := Lib.frozen_of_heap hh6 3
          have HB := Lib.hid ((Stood.cur hR1) : Below _ _ _)
          have hh6 := Go.Joins.block_setCell (i := 0) hh6 (.int .i64 (x1.toNat : Int))
          have HB := Lib.hid (HB.out.setCell (p := ⟨q6, 0, none⟩) (show _ ≤ q6 by simp; omega) (.int .i64 (x1.toNat : Int)))
          have hh6 := Go.Joins.block_setCell (i := 1) hh6 (.int .i64 (x2.toNat : Int))
          have HB := Lib.hid (HB.out.setCell (p := ⟨q6, 1, none⟩) (show _ ≤ q6 by simp; omega) (.int .i64 (x2.toNat : Int)))
          have hh6 := Go.Joins.block_setCell (i := 2) hh6 (.int .i64 (x3.toNat : Int))
          have HB := Lib.hid (HB.out.setCell (p := ⟨q6, 2, none⟩) (show _ ≤ q6 by simp; omega) (.int .i64 (x3.toNat : Int)))
          have hh6 := Go.Joins.block_setCell (i := 3) hh6 (.int .i64 (x4.toNat : Int))
          have HB := Lib.hid (HB.out.setCell (p := ⟨q6, 3, none⟩) (show _ ≤ q6 by simp; omega) (.int .i64 (x4.toNat : Int)))
          go_wp2
          generalize hw9 : ((((w1.setCell ⟨q6, 0, none⟩ (.int .i64 (x1.toNat : Int))).setCell ⟨q6, 1, none⟩ (.int .i64 (x2.toNat : Int))).setCell ⟨q6, 2, none⟩ (.int .i64 (x3.toNat : Int))).setCell ⟨q6, 3, none⟩ (.int .i64 (x4.toNat : Int))) = w9 at *
          simp only [List.setIfInBounds_toArray, List.set_cons_zero, List.set_cons_succ] at hh6
          have HQ6 := Lib.hid hh6
          clear hh6 hz0 hz1 hz2 hz3 hf0 hf1 hf2 hf3 hw9 hR1
          apply wp_region_last 52 (Eqs _ :: Eqs _ :: Eqs _ :: Eqs _ :: Eqs _ :: (BoxF (w.heap.size + 1) #[.int .i64 0, .int .i64 0, .int .i64 0, .int .i64 0, .int .u64 0] 36) :: []) rfl (by kernel_rfl) (by rfl) (stab_cons (stab_eq _) (stab_cons (stab_eq _) (stab_cons (stab_eq _) (stab_cons (stab_eq _) (stab_cons (stab_eq _) (stab_cons stab_box stab_nil)))))) (by kernel_rfl) (by kernel_rfl) (by kernel_rfl)
          case hstep =>
            simp only [List.dropLast_cons_cons, List.dropLast_singleton]
            refine StepsOK.cons ?_ ?_
            · -- 0: Go.Op.load 33 (Go.Operand.tmp 6)
              intro a w1 hR1 hF hU hsz
              have e6 : a.eval (.tmp 6) = _ := hU 6 (by kernel_rfl)
              rw [if_pos (by rfl)]
              intro K hK
              clear hF hU hsz
              have hq := (hR1.block q6 (Array.getElem?_eq_some_iff.1 HQ6.out).1).trans HQ6.out
              have hz0 := Lib.cell_of_heap hq 0
              have hz1 := Lib.cell_of_heap hq 1
              have hz2 := Lib.cell_of_heap hq 2
              have hz3 := Lib.cell_of_heap hq 3
              obtain ⟨q1, q2, q3⟩ := eval_rest a
              generalize hρ : a.eval = ρ
              rw [hρ] at q1 q2 q3 e6
              clear hρ
              have u1 := OpUp_value Try.prog K
              have u2 := OpUp_enter Try.prog K
              go_simp
              exact hK _ _ (Stood.refl _) rfl
            refine StepsOK.cons ?_ ?_
            · -- 1: Go.Op.move (Go.Operand.tmp 0)
              intro a w1 hR1 hF hU hsz
              have e0 : a.eval (.tmp 0) = _ := hU 0 (by kernel_rfl)
              rw [if_pos (by rfl)]
              intro K hK
              clear hF hU hsz
              obtain ⟨q1, q2, q3⟩ := eval_rest a
              generalize hρ : a.eval = ρ
              rw [hρ] at q1 q2 q3 e0
              clear hρ
              have u1 := OpUp_value Try.prog K
              have u2 := OpUp_enter Try.prog K
              go_simp
              exact hK _ _ (Stood.refl _) rfl
            refine StepsOK.cons ?_ ?_
            · -- 2: Go.Op.indexAddr 28 (Go.Operand.tmp 41) (Go.Operand.const (Go.Value.int Go.IntKin
              intro a w1 hR1 hF hU hsz
              have e41 : a.eval (.tmp 41) = _ := hF 1 _ _ rfl rfl (by kernel_rfl)
              rw [if_pos (by rfl)]
              intro K hK
              clear hF hU hsz
              obtain ⟨q1, q2, q3⟩ := eval_rest a
              generalize hρ : a.eval = ρ
              rw [hρ] at q1 q2 q3 e41
              clear hρ
              have u1 := OpUp_value Try.prog K
              have u2 := OpUp_enter Try.prog K
              go_simp
              exact hK _ _ (Stood.refl _) rfl
            refine StepsOK.cons ?_ ?_
            · -- 3: Go.Op.load 22 (Go.Operand.tmp 42)
              intro a w1 hR1 hF hU hsz
              have e42 : a.eval (.tmp 42) = _ := hF 2 _ _ rfl rfl (by kernel_rfl)
              rw [if_pos (by rfl)]
              intro K hK
              clear hF hU hsz
              have hld := ((HB.out.trans ((Stood.cur hR1).mono HB.out.size)).cell (p := ⟨b, off + 6, none⟩) hbl).trans hc6
              obtain ⟨q1, q2, q3⟩ := eval_rest a
              generalize hρ : a.eval = ρ
              rw [hρ] at q1 q2 q3 e42
              clear hρ
              have u1 := OpUp_value Try.prog K
              have u2 := OpUp_enter Try.prog K
              go_simp
              exact hK _ _ (Stood.refl _) rfl
            refine StepsOK.cons ?_ ?_
            · -- 4: Go.Op.build 36 #[(0, Go.Operand.tmp 40), (1, Go.Operand.tmp 43)]
              intro a w1 hR1 hF hU hsz
              have e40 : a.eval (.tmp 40) = _ := hF 0 _ _ rfl rfl (by kernel_rfl)
              have e43 : a.eval (.tmp 43) = _ := hF 3 _ _ rfl rfl (by kernel_rfl)
              rw [if_pos (by rfl)]
              intro K hK
              clear hF hU hsz
              obtain ⟨q1, q2, q3⟩ := eval_rest a
              generalize hρ : a.eval = ρ
              rw [hρ] at q1 q2 q3 e40 e43
              clear hρ
              have u1 := OpUp_value Try.prog K
              have u2 := OpUp_enter Try.prog K
              go_simp
              exact hK _ _ (Stood.refl _) rfl
            refine StepsOK.cons ?_ ?_
            · -- 5: Go.Op.alloc 36
              intro a w1 hR1 hF hU hsz
              rw [if_pos (by rfl)]
              intro K hK
              clear hF hU hsz
              obtain ⟨q1, q2, q3⟩ := eval_rest a
              generalize hρ : a.eval = ρ
              rw [hρ] at q1 q2 q3
              clear hρ
              have u1 := OpUp_value Try.prog K
              have u2 := OpUp_enter Try.prog K
              go_simp
              exact hK _ _ ((Below.refl _ _).alloc (Nat.le_refl _) _) ⟨_, rfl, by have h1 := hR1.size; have h2 := HB.out.size; simp at h1 h2; omega, heap_alloc_new w1 _⟩
            exact StepsOK.nil
          case hend =>
            intro vs0 w1 hR1 hH0
            obtain ⟨vs1, rfl, hH1⟩ := hH0.eq_
            obtain ⟨vs2, rfl, hH2⟩ := hH1.eq_
            obtain ⟨vs3, rfl, hH3⟩ := hH2.eq_
            obtain ⟨vs4, rfl, hH4⟩ := hH3.eq_
            obtain ⟨vs5, rfl, hH5⟩ := hH4.eq_
            obtain ⟨v5, vs6, rfl, hv5, hH6⟩ := hH5.cons
            obtain rfl := hH6.nil
            clear hH0 hH1 hH2 hH3 hH4 hH5 hH6
            simp only [List.dropLast_cons_cons, List.dropLast_singleton, putAll, Act.put, List.setIfInBounds_toArray, List.set_cons_zero, List.set_cons_succ]
            obtain ⟨q7, rfl, hq7, hh7⟩ := hv5
            have HB := Lib.hid (HB.out.trans ((Stood.cur hR1).mono HB.out.size))
            have hz0 := Lib.cell_of_heap hh7 0
            have hf0 := Lib.frozen_of_heap hh7 0
            have hz1 := Lib.cell_of_heap hh7 1
            have hf1 := Lib.frozen_of_heap hh7 1
            have hz2 := Lib.cell_of_heap hh7 2
            have hf2 := Lib.frozen_of_heap hh7 2
            have hz3 := Lib.cell_of_heap hh7 3
            have hf3 := Lib.frozen_of_heap hh7 3
            have hz4 := Lib.cell_of_heap hh7 4
            have hf4 := Lib.frozen_of_heap hh7 4
            have hh7 := Go.Joins.block_setCell (i := 0) hh7 (.int .i64 (x1.toNat : Int))
            have HB := Lib.hid (HB.out.setCell (p := ⟨q7, 0, none⟩) (show _ ≤ q7 by simp; omega) (.int .i64 (x1.toNat : Int)))
            have hh7 := Go.Joins.block_setCell (i := 1) hh7 (.int .i64 (x2.toNat : Int))
            have HB := Lib.hid (HB.out.setCell (p := ⟨q7, 1, none⟩) (show _ ≤ q7 by simp; omega) (.int .i64 (x2.toNat : Int)))
            have hh7 := Go.Joins.block_setCell (i := 2) hh7 (.int .i64 (x3.toNat : Int))
            have HB := Lib.hid (HB.out.setCell (p := ⟨q7, 2, none⟩) (show _ ≤ q7 by simp; omega) (.int .i64 (x3.toNat : Int)))
            have hh7 := Go.Joins.block_setCell (i := 3) hh7 (.int .i64 (x4.toNat : Int))
            have HB := Lib.hid (HB.out.setCell (p := ⟨q7, 3, none⟩) (show _ ≤ q7 by simp; omega) (.int .i64 (x4.toNat : Int)))
            have hh7 := Go.Joins.block_setCell (i := 4) hh7 (U x6)
            have HB := Lib.hid (HB.out.setCell (p := ⟨q7, 4, none⟩) (show _ ≤ q7 by simp; omega) (U x6))
            simp only [List.setIfInBounds_toArray, List.set_cons_zero, List.set_cons_succ] at hh7
            have l0 := Lib.cell_of_heap hh7 0
            have l1 := Lib.cell_of_heap hh7 1
            have l2 := Lib.cell_of_heap hh7 2
            have l3 := Lib.cell_of_heap hh7 3
            have l4 := Lib.cell_of_heap hh7 4
            go_wp2_with fail
            generalize hw10 : (((((w1.setCell ⟨q7, 0, none⟩ (.int .i64 (x1.toNat : Int))).setCell ⟨q7, 1, none⟩ (.int .i64 (x2.toNat : Int))).setCell ⟨q7, 2, none⟩ (.int .i64 (x3.toNat : Int))).setCell ⟨q7, 3, none⟩ (.int .i64 (x4.toNat : Int))).setCell ⟨q7, 4, none⟩ (U x6)) = w10 at *
            have HQ7 := Lib.hid hh7
            clear l0 l1 l2 l3 l4 hz0 hz1 hz2 hz3 hz4 hf0 hf1 hf2 hf3 hf4 hw10 hh7 hR1
            have KP := Lib.hid (fun (W : World) => show Calls Try.prog 26 #[.agg #[.int .i64 (x1.toNat : Int), .int .i64 (x2.toNat : Int), .int .i64 (x3.toNat : Int), .int .i64 (x4.toNat : Int), U x6]] W (fun e w' => (∃ B d, e = .returned (.slice B (headW (geoW [x0, x1, x2, x3, x4, x5, x6, x7]) x6).length d) ∧ OwnU w' W.heap.size B (headW (geoW [x0, x1, x2, x3, x4, x5, x6, x7]) x6) d) ∧ Below W.heap.size W w') from hPut_any (geoW [x0, x1, x2, x3, x4, x5, x6, x7]) x6 W)
            have HLN := Lib.hid (show (headW (geoW [x0, x1, x2, x3, x4, x5, x6, x7]) x6).length ≤ maxLen by rw [headW_len]; unfold maxLen; split <;> simp)
            have HOK := Lib.hid (show headOk [x0, x1, x2, x3, x4, x5, x6, x7] = (headW (geoW [x0, x1, x2, x3, x4, x5, x6, x7]) x6 == [x0, x1, x2, x3, x4, x5, x6, x7]) by
              unfold headOk
              rw [HSMW.out]
              cases hq : (headW (geoW [x0, x1, x2, x3, x4, x5, x6, x7]) x6 == [x0, x1, x2, x3, x4, x5, x6, x7]) with
              | true =>
                have h := eq_of_beq hq
                have h2 : headW (geoW [x0, x1, x2, x3, x4, x5, x6, x7]) ([x0, x1, x2, x3, x4, x5, x6, x7].getD 6 0) = [x0, x1, x2, x3, x4, x5, x6, x7] := h
                rw [decide_eq_true h2]
                rfl
              | false =>
                have h := ne_of_beq_false hq
                have h2 : ¬ headW (geoW [x0, x1, x2, x3, x4, x5, x6, x7]) ([x0, x1, x2, x3, x4, x5, x6, x7].getD 6 0) = [x0, x1, x2, x3, x4, x5, x6, x7] := h
                rw [decide_eq_false h2]
                rfl)
            have HGV := Lib.hid (show (if headOk [x0, x1, x2, x3, x4, x5, x6, x7] = true then Value.tuple #[headV (geoW [x0, x1, x2, x3, x4, x5, x6, x7]) ([x0, x1, x2, x3, x4, x5, x6, x7].getD 6 0), .bool true] else .tuple #[headZ, .bool false]) = getV [x0, x1, x2, x3, x4, x5, x6, x7] from rfl)
            have HHV := Lib.hid (show headV (geoW [x0, x1, x2, x3, x4, x5, x6, x7]) ([x0, x1, x2, x3, x4, x5, x6, x7].getD 6 0) = .agg #[.int .i64 (x1.toNat : Int), .int .i64 (x2.toNat : Int), .int .i64 (x3.toNat : Int), .int .i64 (x4.toNat : Int), U x6] from rfl)
            generalize headW (geoW [x0, x1, x2, x3, x4, x5, x6, x7]) x6 = hw at *
            refine (KP.out _).mono ?_
            rintro e wp ⟨⟨BP, dP, rfl, hown⟩, hbp⟩
            have HQ7 := Lib.hid ((hbp.block q7 (Array.getElem?_eq_some_iff.1 HQ7.out).1).trans HQ7.out)
            have HB := Lib.hid (HB.out.trans (hbp.mono HB.out.size))
            have HRP := Lib.hid hown.rd
            clear hown hbp
            have HWP := Lib.hid (HW.out.trans (HB.out.mono HW.out.size))
            have HRX := Lib.hid (HR.out.below HWP.out)
            go_wp2_with fail
            refine (Equal_any hw [x0, x1, x2, x3, x4, x5, x6, x7] BP (some ⟨b, off, none⟩) dP c _ HRP.out HRX.out HLN.out (by unfold maxLen; simp)).mono ?_
            rintro e we ⟨rfl, hd⟩
            have hbd := hd.below wp.heap.size
            have HQ7 := Lib.hid ((hbd.block q7 (Array.getElem?_eq_some_iff.1 HQ7.out).1).trans HQ7.out)
            have HB := Lib.hid (HB.out.trans ((hd.below _).mono HB.out.size))
            clear hd hbd HWP HRX HRP
            have HWP := Lib.hid (HW.out.trans (HB.out.mono HW.out.size))
            rw [← HOK.out]
            have hh2 := (HB.out.block w.heap.size (by simp)).trans (heap_alloc_new w (.cells #[.int .i64 0, .int .i64 0, .int .i64 0, .int .i64 0, .int .u64 0] 36))
            have y0 := Lib.cell_of_heap hh2 0
            have z0 := Lib.frozen_of_heap hh2 0
            have y1 := Lib.cell_of_heap hh2 1
            have z1 := Lib.frozen_of_heap hh2 1
            have y2 := Lib.cell_of_heap hh2 2
            have z2 := Lib.frozen_of_heap hh2 2
            have y3 := Lib.cell_of_heap hh2 3
            have z3 := Lib.frozen_of_heap hh2 3
            have y4 := Lib.cell_of_heap hh2 4
            have z4 := Lib.frozen_of_heap hh2 4
            generalize headOk [x0, x1, x2, x3, x4, x5, x6, x7] = q at *
            cases q with
            | false =>
              have hh2 := Go.Joins.block_setCell (i := 0) hh2 (.int .i64 0)
              have HWP := Lib.hid (HWP.out.setCell (p := ⟨w.heap.size, 0, none⟩) (Nat.le_refl _) (.int .i64 0))
              have hh2 := Go.Joins.block_setCell (i := 1) hh2 (.int .i64 0)
              have HWP := Lib.hid (HWP.out.setCell (p := ⟨w.heap.size, 1, none⟩) (Nat.le_refl _) (.int .i64 0))
              have hh2 := Go.Joins.block_setCell (i := 2) hh2 (.int .i64 0)
              have HWP := Lib.hid (HWP.out.setCell (p := ⟨w.heap.size, 2, none⟩) (Nat.le_refl _) (.int .i64 0))
              have hh2 := Go.Joins.block_setCell (i := 3) hh2 (.int .i64 0)
              have HWP := Lib.hid (HWP.out.setCell (p := ⟨w.heap.size, 3, none⟩) (Nat.le_refl _) (.int .i64 0))
              have hh2 := Go.Joins.block_setCell (i := 4) hh2 (.int .u64 0)
              have HWP := Lib.hid (HWP.out.setCell (p := ⟨w.heap.size, 4, none⟩) (Nat.le_refl _) (.int .u64 0))
              simp only [List.setIfInBounds_toArray, List.set_cons_zero, List.set_cons_succ] at hh2
              have r0 := Lib.cell_of_heap hh2 0
              have r1 := Lib.cell_of_heap hh2 1
              have r2 := Lib.cell_of_heap hh2 2
              have r3 := Lib.cell_of_heap hh2 3
              have r4 := Lib.cell_of_heap hh2 4
              clear hh2
              go_wp2
              refine bodyPost_ret (v := .tuple #[headZ, .bool false]) ?_ rfl ⟨by rw [← HGV.out]; rfl, HWP.out⟩
              unfold results
              rw [show Try.f30.results = #[.cell 2 36, .tmp 3] from rfl]
              go_simp
              try rfl
            | true =>
              have hh2 := Go.Joins.block_setCell (i := 0) hh2 (.int .i64 (x1.toNat : Int))
              have HWP := Lib.hid (HWP.out.setCell (p := ⟨w.heap.size, 0, none⟩) (Nat.le_refl _) (.int .i64 (x1.toNat : Int)))
              have hh2 := Go.Joins.block_setCell (i := 1) hh2 (.int .i64 (x2.toNat : Int))
              have HWP := Lib.hid (HWP.out.setCell (p := ⟨w.heap.size, 1, none⟩) (Nat.le_refl _) (.int .i64 (x2.toNat : Int)))
              have hh2 := Go.Joins.block_setCell (i := 2) hh2 (.int .i64 (x3.toNat : Int))
              have HWP := Lib.hid (HWP.out.setCell (p := ⟨w.heap.size, 2, none⟩) (Nat.le_refl _) (.int .i64 (x3.toNat : Int)))
              have hh2 := Go.Joins.block_setCell (i := 3) hh2 (.int .i64 (x4.toNat : Int))
              have HWP := Lib.hid (HWP.out.setCell (p := ⟨w.heap.size, 3, none⟩) (Nat.le_refl _) (.int .i64 (x4.toNat : Int)))
              have hh2 := Go.Joins.block_setCell (i := 4) hh2 (U x6)
              have HWP := Lib.hid (HWP.out.setCell (p := ⟨w.heap.size, 4, none⟩) (Nat.le_refl _) (U x6))
              simp only [List.setIfInBounds_toArray, List.set_cons_zero, List.set_cons_succ] at hh2
              have r0 := Lib.cell_of_heap hh2 0
              have r1 := Lib.cell_of_heap hh2 1
              have r2 := Lib.cell_of_heap hh2 2
              have r3 := Lib.cell_of_heap hh2 3
              have r4 := Lib.cell_of_heap hh2 4
              have l0 := Lib.cell_of_heap HQ7.out 0
              have l1 := Lib.cell_of_heap HQ7.out 1
              have l2 := Lib.cell_of_heap HQ7.out 2
              have l3 := Lib.cell_of_heap HQ7.out 3
              have l4 := Lib.cell_of_heap HQ7.out 4
              clear hh2
              go_wp2
              refine bodyPost_ret (v := .tuple #[.agg #[.int .i64 (x1.toNat : Int), .int .i64 (x2.toNat : Int), .int .i64 (x3.toNat : Int), .int .i64 (x4.toNat : Int), U x6], .bool true]) ?_ rfl ⟨by rw [← HGV.out]; rw [HHV.out]; rfl, HWP.out⟩
              unfold results
              rw [show Try.f30.results = #[.cell 2 36, .tmp 3] from rfl]
              go_simp
              try rfl
  · have hb : headOk xs = false := by
      unfold headOk
      rw [decide_eq_false hl]
      rfl
    unfold getV
    rw [hb]
    have hne : ((xs.length : Int) != 8) = true := by
      rw [bne_iff_ne]
      omega
    have hne2 : ¬ ((xs.length : Int) = 8) := by omega
    clear hb
    go_enter Try.func30, Try.ntmps30
    go_wp2
    refine bodyPost_ret (v := .tuple #[headZ, .bool false]) ?_ rfl ⟨rfl, HW.out⟩
    unfold results
    rw [show Try.f30.results = #[.cell 2 36, .tmp 3] from rfl]
    go_simp
    rfl
end Go.Proofs.Ytgkojedgamglgaa
