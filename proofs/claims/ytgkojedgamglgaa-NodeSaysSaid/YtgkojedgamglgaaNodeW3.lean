/- The walks of the law's inode, and of nodes where they are alike. Condition: the runs can be read. -/
import Derived.Test.YtgkojedgamglgaaNodeW2
namespace Go.Proofs.Ytgkojedgamglgaa
open Go.RowKit
set_option linter.unusedVariables false
set_option linter.unusedSimpArgs false
theorem infoRf : (Try.prog.info? 135).map (fun i => (i.zero, i.size, i.bytes)) = some (some (.agg #[.int .i64 0, .int .i64 0]), 2, 16) := by kernel_rfl
/-- A slice of cells, made behind lo: a fact that lasts. -/
def SliB (lo n c : Nat) (cs : Array Value) (t : TypeId) : Fact := fun v w => ∃ q, v = .slice (some ⟨q, 0, none⟩) n c ∧ lo ≤ q ∧ w.heap[q]? = some (.cells cs t (0, 0))
theorem stab_sliB {lo n c : Nat} {cs : Array Value} {t : TypeId} : Stab Stood (SliB lo n c cs t) := fun v w w' ⟨q, e, hl, hq⟩ h => ⟨q, e, hl, (h.block q (Array.getElem?_eq_some_iff.1 hq).1).trans hq⟩
set_option maxRecDepth 100000 in
set_option maxHeartbeats 8000000 in
theorem inode_any (n : NodeN) (A : Option Addr) (rs : List Rn) (c : Nat) (w : World) (hl : RdR w A rs) (hn : rs.length ≤ 1000) :
    Calls Try.prog 55 #[nodeV n A rs c] w fun e w' => (∃ B d, e = .returned (nodeV n B rs d) ∧ RdR w' B rs) ∧ Below w.heap.size w w' := by
  have HL := Lib.hid hl
  clear hl
  unfold nodeV
  obtain ⟨t, l, s⟩ := n
  simp only
  have HN0 := Lib.hid (heap_alloc_new w (.cells #[.int .i64 t, .int .i64 l, .int .i64 s, .slice A rs.length c] 84))
  have HW := Lib.hid (((((Below.refl w.heap.size w).alloc (Nat.le_refl _) (.cells #[.int .i64 t, .int .i64 l, .int .i64 s, .slice A rs.length c] 84)).alloc (by simp) (.cells #[.int .i64 0, .int .i64 0, .int .i64 0, .slice none 0 0] 93))).alloc (by simp; omega) (.cells #[.int .i64 t, .int .i64 l, .int .i64 s, .slice none 0 0] 93))
  have HBX := Lib.hid (show (((w.alloc (.cells #[.int .i64 t, .int .i64 l, .int .i64 s, .slice A rs.length c] 84)).alloc (.cells #[.int .i64 0, .int .i64 0, .int .i64 0, .slice none 0 0] 93)).alloc (.cells #[.int .i64 t, .int .i64 l, .int .i64 s, .slice none 0 0] 93)).heap[w.heap.size]? = some (.cells #[.int .i64 t, .int .i64 l, .int .i64 s, .slice A rs.length c] 84 (0, 0)) from heap_below (heap_below (heap_alloc_new w (.cells #[.int .i64 t, .int .i64 l, .int .i64 s, .slice A rs.length c] 84)) ((Below.refl _ _).alloc (Nat.le_refl _) (.cells #[.int .i64 0, .int .i64 0, .int .i64 0, .slice none 0 0] 93))) ((Below.refl _ _).alloc (Nat.le_refl _) (.cells #[.int .i64 t, .int .i64 l, .int .i64 s, .slice none 0 0] 93)))
  have HRX := Lib.hid (show (((w.alloc (.cells #[.int .i64 t, .int .i64 l, .int .i64 s, .slice A rs.length c] 84)).alloc (.cells #[.int .i64 0, .int .i64 0, .int .i64 0, .slice none 0 0] 93)).alloc (.cells #[.int .i64 t, .int .i64 l, .int .i64 s, .slice none 0 0] 93)).heap[w.heap.size + 1]? = some (.cells #[.int .i64 0, .int .i64 0, .int .i64 0, .slice none 0 0] 93 (0, 0)) from heap_below (by have h := heap_alloc_new (w.alloc (.cells #[.int .i64 t, .int .i64 l, .int .i64 s, .slice A rs.length c] 84)) (.cells #[.int .i64 0, .int .i64 0, .int .i64 0, .slice none 0 0] 93); simpa using h) ((Below.refl _ _).alloc (Nat.le_refl _) (.cells #[.int .i64 t, .int .i64 l, .int .i64 s, .slice none 0 0] 93)))
  have HQ := Lib.hid (show (((w.alloc (.cells #[.int .i64 t, .int .i64 l, .int .i64 s, .slice A rs.length c] 84)).alloc (.cells #[.int .i64 0, .int .i64 0, .int .i64 0, .slice none 0 0] 93)).alloc (.cells #[.int .i64 t, .int .i64 l, .int .i64 s, .slice none 0 0] 93)).heap[w.heap.size + 2]? = some (.cells #[.int .i64 t, .int .i64 l, .int .i64 s, .slice none 0 0] 93 (0, 0)) by have h := heap_alloc_new ((w.alloc (.cells #[.int .i64 t, .int .i64 l, .int .i64 s, .slice A rs.length c] 84)).alloc (.cells #[.int .i64 0, .int .i64 0, .int .i64 0, .slice none 0 0] 93)) (.cells #[.int .i64 t, .int .i64 l, .int .i64 s, .slice none 0 0] 93); simpa using h)
  have HSZ := Lib.hid (show (((w.alloc (.cells #[.int .i64 t, .int .i64 l, .int .i64 s, .slice A rs.length c] 84)).alloc (.cells #[.int .i64 0, .int .i64 0, .int .i64 0, .slice none 0 0] 93)).alloc (.cells #[.int .i64 t, .int .i64 l, .int .i64 s, .slice none 0 0] 93)).heap.size = w.heap.size + 3 by simp)
  go_enter Try.func55, Try.ntmps55
  go_wp2
  generalize (((w.alloc (.cells #[.int .i64 t, .int .i64 l, .int .i64 s, .slice A rs.length c] 84)).alloc (.cells #[.int .i64 0, .int .i64 0, .int .i64 0, .slice none 0 0] 93)).alloc (.cells #[.int .i64 t, .int .i64 l, .int .i64 s, .slice none 0 0] 93)) = w3 at *
  have HB0 := Lib.hid (Below.refl w3.heap.size w3)
  go_loopw [4] (fun i wr => ∃ (k : Nat) (B : Option Addr) (d : Nat), k ≤ rs.length ∧ i = .int .i64 k ∧ wr.heap[w.heap.size + 2]? = some (.cells #[.int .i64 t, .int .i64 l, .int .i64 s, .slice B k d] 93 (0, 0)) ∧ wr.heap[w.heap.size]? = some (.cells #[.int .i64 t, .int .i64 l, .int .i64 s, .slice A rs.length c] 84 (0, 0)) ∧ wr.heap[w.heap.size + 1]? = some (.cells #[.int .i64 0, .int .i64 0, .int .i64 0, .slice none 0 0] 93 (0, 0)) ∧ OwnR 135 wr (w.heap.size + 3) B (rs.take k) d ∧ Below w.heap.size w wr) (fun i _ => rs.length - (intOf i).toNat)
  case atStart => exact ⟨0, none, 0, by omega, rfl, HQ.out, HBX.out, HRX.out, OwnR.nil_ _ _, HW.out⟩
  case round =>
    obtain ⟨k, B, d, hk, rfl, hhq, hhx, hhr, hown, hbw⟩ := hrel
    have HQ := Lib.hid hhq
    have HBX := Lib.hid hhx
    have HRX := Lib.hid hhr
    have HO := Lib.hid hown
    have HB := Lib.hid hbw
    have HRL := Lib.hid (show (rs.take k).length = k by rw [List.length_take]; omega)
    have hwz := heap_lt hhq
    clear hhq hhx hhr hown hbw HB0 HSZ HN0 HW
    obtain ⟨b0, b1, b2, b3⟩ := cells4 HBX.out
    by_cases hlt : k < rs.length
    · obtain ⟨lb, lo, rfl, hlc⟩ := (HL.out.below HB.out).at_ hlt
      obtain ⟨hk1, hk2⟩ := hlc k hlt
      have HT := Lib.hid (List.take_succ_eq_append_getElem hlt)
      clear hlc
      generalize rs[k] = zv at *
      obtain ⟨z, v⟩ := zv
      simp only at hk1 hk2
      have e1 : IntKind.i64.wrap ((k : Int) + 1) = (k : Int) + 1 := IntWalk.i64_in _ (by omega)
      go_wp2_with fail
      apply wp_region_tail 38 16 (Eqs _ :: Eqs _ :: Eqs _ :: Eqs _ :: Eqs _ :: Eqs _ :: Eqs _ :: Eqs _ :: Eqs _ :: Eqs _ :: Eqs _ :: Eqs _ :: Eqs _ :: Eqs _ :: Eqs _ :: (SliB 0 1 1 #[.int .i64 z, .int .i64 v] 135) :: []) rfl (by kernel_rfl) (by rfl) (stab_cons (stab_eq _) (stab_cons (stab_eq _) (stab_cons (stab_eq _) (stab_cons (stab_eq _) (stab_cons (stab_eq _) (stab_cons (stab_eq _) (stab_cons (stab_eq _) (stab_cons (stab_eq _) (stab_cons (stab_eq _) (stab_cons (stab_eq _) (stab_cons (stab_eq _) (stab_cons (stab_eq _) (stab_cons (stab_eq _) (stab_cons (stab_eq _) (stab_cons (stab_eq _) (stab_cons stab_sliB stab_nil)))))))))))))))) (by kernel_rfl) (by kernel_rfl) (by kernel_rfl) (by kernel_rfl)
      case hstep =>
        simp only [List.take_succ_cons, List.take_zero]
        refine StepsOK.cons ?_ ?_
        · -- 0: Go.Op.fieldAddr 93 (Go.Operand.tmp 3) 3
          intro a w1 hR1 hF hU hsz
          have e3 : a.eval (.tmp 3) = _ := hU 3 (by kernel_rfl)
          rw [if_pos (by rfl)]
          intro K hK
          clear hF hU hsz
          obtain ⟨q1, q2, q3⟩ := eval_rest a
          generalize hρ : a.eval = ρ
          rw [hρ] at q1 q2 q3 e3
          clear hρ
          have u1 := OpUp_value Try.prog K
          have u2 := OpUp_enter Try.prog K
          go_simp
          exact hK _ _ (Stood.refl _) rfl
        refine StepsOK.cons ?_ ?_
        · -- 1: Go.Op.load 91 (Go.Operand.tmp 19)
          intro a w1 hR1 hF hU hsz
          have e19 : a.eval (.tmp 19) = _ := hF 0 _ _ rfl rfl (by kernel_rfl)
          rw [if_pos (by rfl)]
          intro K hK
          clear hF hU hsz
          obtain ⟨c0_, c1_, c2_, c3_⟩ := cells4 (heap_below HQ.out (Stood.cur hR1))
          obtain ⟨q1, q2, q3⟩ := eval_rest a
          generalize hρ : a.eval = ρ
          rw [hρ] at q1 q2 q3 e19
          clear hρ
          have u1 := OpUp_value Try.prog K
          have u2 := OpUp_enter Try.prog K
          go_simp
          exact hK _ _ (Stood.refl _) rfl
        refine StepsOK.cons ?_ ?_
        · -- 2: Go.Op.fieldAddr 84 (Go.Operand.tmp 1) 3
          intro a w1 hR1 hF hU hsz
          have e1 : a.eval (.tmp 1) = _ := hU 1 (by kernel_rfl)
          rw [if_pos (by rfl)]
          intro K hK
          clear hF hU hsz
          obtain ⟨q1, q2, q3⟩ := eval_rest a
          generalize hρ : a.eval = ρ
          rw [hρ] at q1 q2 q3 e1
          clear hρ
          have u1 := OpUp_value Try.prog K
          have u2 := OpUp_enter Try.prog K
          go_simp
          exact hK _ _ (Stood.refl _) rfl
        refine StepsOK.cons ?_ ?_
        · -- 3: Go.Op.load 82 (Go.Operand.tmp 21)
          intro a w1 hR1 hF hU hsz
          have e21 : a.eval (.tmp 21) = _ := hF 2 _ _ rfl rfl (by kernel_rfl)
          rw [if_pos (by rfl)]
          intro K hK
          clear hF hU hsz
          obtain ⟨c0_, c1_, c2_, c3_⟩ := cells4 (heap_below HBX.out (Stood.cur hR1))
          obtain ⟨q1, q2, q3⟩ := eval_rest a
          generalize hρ : a.eval = ρ
          rw [hρ] at q1 q2 q3 e21
          clear hρ
          have u1 := OpUp_value Try.prog K
          have u2 := OpUp_enter Try.prog K
          go_simp
          exact hK _ _ (Stood.refl _) rfl
        refine StepsOK.cons ?_ ?_
        · -- 4: Go.Op.move (Go.Operand.tmp 4)
          intro a w1 hR1 hF hU hsz
          have e4 : a.eval (.tmp 4) = _ := hU 4 (by kernel_rfl)
          rw [if_pos (by rfl)]
          intro K hK
          clear hF hU hsz
          obtain ⟨q1, q2, q3⟩ := eval_rest a
          generalize hρ : a.eval = ρ
          rw [hρ] at q1 q2 q3 e4
          clear hρ
          have u1 := OpUp_value Try.prog K
          have u2 := OpUp_enter Try.prog K
          go_simp
          exact hK _ _ (Stood.refl _) rfl
        refine StepsOK.cons ?_ ?_
        · -- 5: Go.Op.indexAddr 82 (Go.Operand.tmp 22) (Go.Operand.tmp 23)
          intro a w1 hR1 hF hU hsz
          have e22 : a.eval (.tmp 22) = _ := hF 3 _ _ rfl rfl (by kernel_rfl)
          have e23 : a.eval (.tmp 23) = _ := hF 4 _ _ rfl rfl (by kernel_rfl)
          rw [if_pos (by rfl)]
          intro K hK
          clear hF hU hsz
          obtain ⟨q1, q2, q3⟩ := eval_rest a
          generalize hρ : a.eval = ρ
          rw [hρ] at q1 q2 q3 e22 e23
          clear hρ
          have u1 := OpUp_value Try.prog K
          have u2 := OpUp_enter Try.prog K
          go_simp
          exact hK _ _ (Stood.refl _) rfl
        refine StepsOK.cons ?_ ?_
        · -- 6: Go.Op.fieldAddr 81 (Go.Operand.tmp 24) 0
          intro a w1 hR1 hF hU hsz
          have e24 : a.eval (.tmp 24) = _ := hF 5 _ _ rfl rfl (by kernel_rfl)
          rw [if_pos (by rfl)]
          intro K hK
          clear hF hU hsz
          obtain ⟨q1, q2, q3⟩ := eval_rest a
          generalize hρ : a.eval = ρ
          rw [hρ] at q1 q2 q3 e24
          clear hρ
          have u1 := OpUp_value Try.prog K
          have u2 := OpUp_enter Try.prog K
          go_simp
          exact hK _ _ (Stood.refl _) rfl
        refine StepsOK.cons ?_ ?_
        · -- 7: Go.Op.load 3 (Go.Operand.tmp 25)
          intro a w1 hR1 hF hU hsz
          have e25 : a.eval (.tmp 25) = _ := hF 6 _ _ rfl rfl (by kernel_rfl)
          rw [if_pos (by rfl)]
          intro K hK
          clear hF hU hsz
          have hz1 := ((Stood.cur hR1).cell (p := ⟨lb, lo + k * 2, none⟩) (cell_lt hk1)).trans hk1
          obtain ⟨q1, q2, q3⟩ := eval_rest a
          generalize hρ : a.eval = ρ
          rw [hρ] at q1 q2 q3 e25
          clear hρ
          have u1 := OpUp_value Try.prog K
          have u2 := OpUp_enter Try.prog K
          go_simp
          exact hK _ _ (Stood.refl _) rfl
        refine StepsOK.cons ?_ ?_
        · -- 8: Go.Op.fieldAddr 84 (Go.Operand.tmp 1) 3
          intro a w1 hR1 hF hU hsz
          have e1 : a.eval (.tmp 1) = _ := hU 1 (by kernel_rfl)
          rw [if_pos (by rfl)]
          intro K hK
          clear hF hU hsz
          obtain ⟨q1, q2, q3⟩ := eval_rest a
          generalize hρ : a.eval = ρ
          rw [hρ] at q1 q2 q3 e1
          clear hρ
          have u1 := OpUp_value Try.prog K
          have u2 := OpUp_enter Try.prog K
          go_simp
          exact hK _ _ (Stood.refl _) rfl
        refine StepsOK.cons ?_ ?_
        · -- 9: Go.Op.load 82 (Go.Operand.tmp 27)
          intro a w1 hR1 hF hU hsz
          have e27 : a.eval (.tmp 27) = _ := hF 8 _ _ rfl rfl (by kernel_rfl)
          rw [if_pos (by rfl)]
          intro K hK
          clear hF hU hsz
          obtain ⟨c0_, c1_, c2_, c3_⟩ := cells4 (heap_below HBX.out (Stood.cur hR1))
          obtain ⟨q1, q2, q3⟩ := eval_rest a
          generalize hρ : a.eval = ρ
          rw [hρ] at q1 q2 q3 e27
          clear hρ
          have u1 := OpUp_value Try.prog K
          have u2 := OpUp_enter Try.prog K
          go_simp
          exact hK _ _ (Stood.refl _) rfl
        refine StepsOK.cons ?_ ?_
        · -- 10: Go.Op.move (Go.Operand.tmp 4)
          intro a w1 hR1 hF hU hsz
          have e4 : a.eval (.tmp 4) = _ := hU 4 (by kernel_rfl)
          rw [if_pos (by rfl)]
          intro K hK
          clear hF hU hsz
          obtain ⟨q1, q2, q3⟩ := eval_rest a
          generalize hρ : a.eval = ρ
          rw [hρ] at q1 q2 q3 e4
          clear hρ
          have u1 := OpUp_value Try.prog K
          have u2 := OpUp_enter Try.prog K
          go_simp
          exact hK _ _ (Stood.refl _) rfl
        refine StepsOK.cons ?_ ?_
        · -- 11: Go.Op.indexAddr 82 (Go.Operand.tmp 28) (Go.Operand.tmp 29)
          intro a w1 hR1 hF hU hsz
          have e28 : a.eval (.tmp 28) = _ := hF 9 _ _ rfl rfl (by kernel_rfl)
          have e29 : a.eval (.tmp 29) = _ := hF 10 _ _ rfl rfl (by kernel_rfl)
          rw [if_pos (by rfl)]
          intro K hK
          clear hF hU hsz
          obtain ⟨q1, q2, q3⟩ := eval_rest a
          generalize hρ : a.eval = ρ
          rw [hρ] at q1 q2 q3 e28 e29
          clear hρ
          have u1 := OpUp_value Try.prog K
          have u2 := OpUp_enter Try.prog K
          go_simp
          exact hK _ _ (Stood.refl _) rfl
        refine StepsOK.cons ?_ ?_
        · -- 12: Go.Op.fieldAddr 81 (Go.Operand.tmp 30) 1
          intro a w1 hR1 hF hU hsz
          have e30 : a.eval (.tmp 30) = _ := hF 11 _ _ rfl rfl (by kernel_rfl)
          rw [if_pos (by rfl)]
          intro K hK
          clear hF hU hsz
          obtain ⟨q1, q2, q3⟩ := eval_rest a
          generalize hρ : a.eval = ρ
          rw [hρ] at q1 q2 q3 e30
          clear hρ
          have u1 := OpUp_value Try.prog K
          have u2 := OpUp_enter Try.prog K
          go_simp
          exact hK _ _ (Stood.refl _) rfl
        refine StepsOK.cons ?_ ?_
        · -- 13: Go.Op.load 3 (Go.Operand.tmp 31)
          intro a w1 hR1 hF hU hsz
          have e31 : a.eval (.tmp 31) = _ := hF 12 _ _ rfl rfl (by kernel_rfl)
          rw [if_pos (by rfl)]
          intro K hK
          clear hF hU hsz
          have hz2 := ((Stood.cur hR1).cell (p := ⟨lb, lo + k * 2 + 1, none⟩) (cell_lt hk2)).trans hk2
          obtain ⟨q1, q2, q3⟩ := eval_rest a
          generalize hρ : a.eval = ρ
          rw [hρ] at q1 q2 q3 e31
          clear hρ
          have u1 := OpUp_value Try.prog K
          have u2 := OpUp_enter Try.prog K
          go_simp
          exact hK _ _ (Stood.refl _) rfl
        refine StepsOK.cons ?_ ?_
        · -- 14: Go.Op.build 135 #[(0, Go.Operand.tmp 26), (1, Go.Operand.tmp 32)]
          intro a w1 hR1 hF hU hsz
          have e26 : a.eval (.tmp 26) = _ := hF 7 _ _ rfl rfl (by kernel_rfl)
          have e32 : a.eval (.tmp 32) = _ := hF 13 _ _ rfl rfl (by kernel_rfl)
          rw [if_pos (by rfl)]
          intro K hK
          clear hF hU hsz
          obtain ⟨q1, q2, q3⟩ := eval_rest a
          generalize hρ : a.eval = ρ
          rw [hρ] at q1 q2 q3 e26 e32
          clear hρ
          have u1 := OpUp_value Try.prog K
          have u2 := OpUp_enter Try.prog K
          go_simp
          exact hK _ _ (Stood.refl _) rfl
        refine StepsOK.cons ?_ ?_
        · -- 15: Go.Op.buildSlice 91 1 #[(0, Go.Operand.tmp 33)]
          intro a w1 hR1 hF hU hsz
          have e33 : a.eval (.tmp 33) = _ := hF 14 _ _ rfl rfl (by kernel_rfl)
          rw [if_pos (by rfl)]
          intro K hK
          clear hF hU hsz
          obtain ⟨q1, q2, q3⟩ := eval_rest a
          generalize hρ : a.eval = ρ
          rw [hρ] at q1 q2 q3 e33
          clear hρ
          have u1 := OpUp_value Try.prog K
          have u2 := OpUp_enter Try.prog K
          go_simp
          exact hK _ _ ((Below.refl _ _).alloc (Nat.le_refl _) _) ⟨_, rfl, Nat.zero_le _, heap_alloc_new w1 _⟩
        exact StepsOK.nil
      case hend =>
        intro vs0 w1 hR1 hH0
        obtain ⟨vs1, rfl, hH1⟩ := hH0.eq_
        obtain ⟨vs2, rfl, hH2⟩ := hH1.eq_
        obtain ⟨vs3, rfl, hH3⟩ := hH2.eq_
        obtain ⟨vs4, rfl, hH4⟩ := hH3.eq_
        obtain ⟨vs5, rfl, hH5⟩ := hH4.eq_
        obtain ⟨vs6, rfl, hH6⟩ := hH5.eq_
        obtain ⟨vs7, rfl, hH7⟩ := hH6.eq_
        obtain ⟨vs8, rfl, hH8⟩ := hH7.eq_
        obtain ⟨vs9, rfl, hH9⟩ := hH8.eq_
        obtain ⟨vs10, rfl, hH10⟩ := hH9.eq_
        obtain ⟨vs11, rfl, hH11⟩ := hH10.eq_
        obtain ⟨vs12, rfl, hH12⟩ := hH11.eq_
        obtain ⟨vs13, rfl, hH13⟩ := hH12.eq_
        obtain ⟨vs14, rfl, hH14⟩ := hH13.eq_
        obtain ⟨vs15, rfl, hH15⟩ := hH14.eq_
        obtain ⟨v15, vs16, rfl, hv15, hH16⟩ := hH15.cons
        obtain rfl := hH16.nil
        clear hH0 hH1 hH2 hH3 hH4 hH5 hH6 hH7 hH8 hH9 hH10 hH11 hH12 hH13 hH14 hH15 hH16
        simp only [List.take_succ_cons, List.take_zero, putAll, Act.put, List.setIfInBounds_toArray, List.set_cons_zero, List.set_cons_succ]
        obtain ⟨q, rfl, hq1, hq2⟩ := hv15
        have HO1 := Lib.hid (HO.out.below (Stood.cur hR1))
        have HB1 := Lib.hid (HB.out.trans ((Stood.cur hR1).mono HB.out.size))
        have HQ1 := Lib.hid (heap_below HQ.out (Stood.cur hR1))
        have HBX1 := Lib.hid (heap_below HBX.out (Stood.cur hR1))
        have HRX1 := Lib.hid (heap_below HRX.out (Stood.cur hR1))
        have hws := (Stood.cur hR1).size
        have hrd := RdR.of_heap hq2
        refine stop_ ?_
        refine appR 91 135 Try.underlying91 infoRf (.tmp 20) (.tmp 34) rfl rfl (w.heap.size + 3) B (rs.take k) _ d rfl HRL.out.symm HO1.out (some ⟨q, 0, none⟩) [(z, v)] 1 1 rfl rfl hrd (by rw [HRL.out]; simp; omega) (by omega) ?_
        intro B2 us d2 w5 hus hown2 hg2 _
        have hne : ∀ j, j < w.heap.size + 3 → some j ≠ blk B := fun j hj e => by have := (HO1.out.lt j e.symm).1; omega
        have hQ3 : w5.heap[w.heap.size + 2]? = some _ := (hg2.block _ (by omega) (hne _ (by omega))).trans HQ1.out
        have hX3 : w5.heap[w.heap.size]? = some _ := (hg2.block _ (by omega) (hne _ (by omega))).trans HBX1.out
        have hR3 : w5.heap[w.heap.size + 1]? = some _ := (hg2.block _ (by omega) (hne _ (by omega))).trans HRX1.out
        have HU := Lib.hid (show us = rs.take (k + 1) by rw [hus, HT.out])
        have HUL := Lib.hid (show us.length = k + 1 by rw [hus, List.length_append, HRL.out]; rfl)
        have hb3 := HB1.out.grown hg2 (by omega) (fun j hj => by have := (HO1.out.lt j hj).1; omega)
        rw [HUL.out]
        have hQ4 := heap_set1 3 hQ3 (.slice B2 (k + 1) d2)
        simp only [List.setIfInBounds_toArray, List.set_cons_zero, List.set_cons_succ] at hQ4
        have HQ4 := Lib.hid hQ4
        have hne2 : ∀ j, j < w.heap.size + 2 → (w5.setCell ⟨w.heap.size + 2, 3, none⟩ (.slice B2 (k + 1) d2)).heap[j]? = w5.heap[j]? := fun j hj => Below.heap_setCell _ _ _ _ (by simp; omega)
        have HX4 := Lib.hid ((hne2 w.heap.size (by omega)).trans hX3)
        have HR4 := Lib.hid ((hne2 (w.heap.size + 1) (by omega)).trans hR3)
        have HB4 := Lib.hid (hb3.setCell (p := ⟨w.heap.size + 2, 3, none⟩) (by simp) (.slice B2 (k + 1) d2))
        have HO4 := Lib.hid ((show OwnR 135 w5 (w.heap.size + 3) B2 us d2 from hown2).kept (grownBy_setAt' w5 (w.heap.size + 2) 3 (.slice B2 (k + 1) d2)) (by
          cases hB : blk B2 with
          | none => exact .inl rfl
          | some j => exact .inr (fun e => by cases e; have h1 := (hown2.lt _ hB).1; omega)))
        obtain ⟨o0, o1, o2, o3⟩ := cells4 hQ3
        obtain ⟨i0, i1, i2, i3⟩ := frozen4 hQ3
        clear hus hg2 hown2 hrd hQ3 hX3 hR3 hQ4 hb3 hne hne2 hk1 hk2 hws b0 b1 b2 b3 hq1 hq2 hR1 hwz
        unfold Stop
        go_wp2
        go_roundw
        case rel => exact ⟨k + 1, B2, d2, by omega, by go_num, HQ4.out, HX4.out, HR4.out, by rw [← HU.out]; exact HO4.out, HB4.out⟩
        case measure => simp [intOf]; omega
    · obtain rfl : k = rs.length := by omega
      rw [List.take_length] at HO
      obtain ⟨c0, c1, c2, c3⟩ := cells4 HQ.out
      obtain ⟨y0, y1, y2, y3⟩ := cells4 HRX.out
      obtain ⟨z0, z1, z2, z3⟩ := frozen4 HRX.out
      have hh3 := heap_set4 HRX.out (.int .i64 t) (.int .i64 l) (.int .i64 s) (.slice B rs.length d)
      have HWF := Lib.hid (below_set4 HB.out (show w.heap.size ≤ w.heap.size + 1 by omega) (.int .i64 t) (.int .i64 l) (.int .i64 s) (.slice B rs.length d))
      have HBN := Lib.hid (show blk B = none ∨ blk B ≠ some (w.heap.size + 1) by
        cases hB : blk B with
        | none => exact .inl rfl
        | some j => exact .inr (fun e => by cases e; have h1 := (HO.out.lt _ hB).1; omega))
      have HRF := Lib.hid (show RdR ((((wr.setCell ⟨w.heap.size + 1, 0, none⟩ (.int .i64 t)).setCell ⟨w.heap.size + 1, 1, none⟩ (.int .i64 l)).setCell ⟨w.heap.size + 1, 2, none⟩ (.int .i64 s)).setCell ⟨w.heap.size + 1, 3, none⟩ (.slice B rs.length d)) B rs from
        ((((HO.out.kept (grownBy_setAt' _ (w.heap.size + 1) 0 _) HBN.out).kept (grownBy_setAt' _ (w.heap.size + 1) 1 _) HBN.out).kept (grownBy_setAt' _ (w.heap.size + 1) 2 _) HBN.out).kept (grownBy_setAt' _ (w.heap.size + 1) 3 _) HBN.out).rd)
      obtain ⟨r0, r1, r2, r3⟩ := cells4 hh3
      clear hh3 hwz
      go_wp2
      refine bodyPost_ret (v := .agg #[.int .i64 t, .int .i64 l, .int .i64 s, .slice B rs.length d]) ?_ rfl ⟨⟨B, d, rfl, HRF.out⟩, HWF.out⟩
      unfold results
      rw [show Try.f55.results = #[.cell 2 93] from rfl]
      go_simp
      try rfl
set_option maxRecDepth 100000 in
set_option maxHeartbeats 4000000 in
theorem nodes_same (n : NodeN) (A B : Option Addr) (rs : List Rn) (c d : Nat) (w : World) (hA : RdR w A rs) (hB : RdR w B rs) (hn : rs.length ≤ 1000) :
    Calls Try.prog 61 #[nodeV n A rs c, nodeV n B rs d] w fun e w' => e = .returned (.bool true) ∧ Below w.heap.size w w' := by
  have HA := Lib.hid hA
  have HB := Lib.hid hB
  clear hA hB
  unfold nodeV
  obtain ⟨t, l, s⟩ := n
  simp only
  have q0 : (t != t) = false := by simp
  have q1 : (l != l) = false := by simp
  have q2 : (s != s) = false := by simp
  have q3 : ((rs.length : Int) != (rs.length : Int)) = false := by simp
  have HX := Lib.hid (show ((w.alloc (.cells #[.int .i64 t, .int .i64 l, .int .i64 s, .slice A rs.length c] 93)).alloc (.cells #[.int .i64 t, .int .i64 l, .int .i64 s, .slice B rs.length d] 93)).heap[w.heap.size]? = some (.cells #[.int .i64 t, .int .i64 l, .int .i64 s, .slice A rs.length c] 93 (0, 0)) from heap_below (heap_alloc_new w (.cells #[.int .i64 t, .int .i64 l, .int .i64 s, .slice A rs.length c] 93)) ((Below.refl _ _).alloc (Nat.le_refl _) (.cells #[.int .i64 t, .int .i64 l, .int .i64 s, .slice B rs.length d] 93)))
  have HY := Lib.hid (show ((w.alloc (.cells #[.int .i64 t, .int .i64 l, .int .i64 s, .slice A rs.length c] 93)).alloc (.cells #[.int .i64 t, .int .i64 l, .int .i64 s, .slice B rs.length d] 93)).heap[w.heap.size + 1]? = some (.cells #[.int .i64 t, .int .i64 l, .int .i64 s, .slice B rs.length d] 93 (0, 0)) by have h := heap_alloc_new (w.alloc (.cells #[.int .i64 t, .int .i64 l, .int .i64 s, .slice A rs.length c] 93)) (.cells #[.int .i64 t, .int .i64 l, .int .i64 s, .slice B rs.length d] 93); simpa using h)
  have HW := Lib.hid (((Below.refl w.heap.size w).alloc (Nat.le_refl _) (.cells #[.int .i64 t, .int .i64 l, .int .i64 s, .slice A rs.length c] 93)).alloc (by simp) (.cells #[.int .i64 t, .int .i64 l, .int .i64 s, .slice B rs.length d] 93))
  go_enter Try.func61, Try.ntmps61
  go_wp2
  generalize ((w.alloc (.cells #[.int .i64 t, .int .i64 l, .int .i64 s, .slice A rs.length c] 93)).alloc (.cells #[.int .i64 t, .int .i64 l, .int .i64 s, .slice B rs.length d] 93)) = w2 at *
  go_loopw [5] (fun i wr => ∃ k : Nat, k ≤ rs.length ∧ i = .int .i64 k ∧ Below w2.heap.size w2 wr) (fun i _ => rs.length - (intOf i).toNat)
  case atStart => exact ⟨0, by omega, rfl, Below.refl _ _⟩
  case round =>
    obtain ⟨k, hk, rfl, hbw⟩ := hrel
    have HBW := Lib.hid hbw
    clear hbw
    obtain ⟨a0, a1, a2, a3⟩ := cells4 (heap_below HX.out HBW.out)
    obtain ⟨b0, b1, b2, b3⟩ := cells4 (heap_below HY.out HBW.out)
    by_cases hlt : k < rs.length
    · obtain ⟨lb, lo, rfl, hlc⟩ := (HA.out.below (HW.out.trans (HBW.out.mono HW.out.size))).at_ hlt
      obtain ⟨hk1, hk2⟩ := hlc k hlt
      obtain ⟨mb, mo, rfl, hmc⟩ := (HB.out.below (HW.out.trans (HBW.out.mono HW.out.size))).at_ hlt
      obtain ⟨hm1, hm2⟩ := hmc k hlt
      clear hlc hmc
      generalize rs[k] = zv at *
      obtain ⟨z, v⟩ := zv
      simp only at hk1 hk2 hm1 hm2
      have e1 : IntKind.i64.wrap ((k : Int) + 1) = (k : Int) + 1 := IntWalk.i64_in _ (by omega)
      go_wp2_with fail
      go_quiet (fail)
      go_wp2
      go_roundw
      case rel => exact ⟨k + 1, by omega, by go_num, below_quiet HBW.out _⟩
      case measure => simp [intOf]; omega
    · obtain rfl : k = rs.length := by omega
      go_wp2
      go_ret
      exact ⟨rfl, HW.out.trans (HBW.out.mono HW.out.size)⟩
end Go.Proofs.Ytgkojedgamglgaa
