/- The walk of the reference's NewMem. Condition: the words can be read; whole lines, not too many. -/
import Derived.Test.YtoifejinppjeeaaRPmW3
import Derived.Test.YtoifejinppjeeaaPmFrom
namespace Go.Proofs.Ytoifejinppjeeaa
open Go.RowKit
set_option linter.unusedVariables false
set_option linter.unusedSimpArgs false
theorem infoRLn : (Try.prog.info? 125).map (fun i => (i.zero, i.size, i.bytes)) = some (some (.pointer none), 1, 8) := by kernel_rfl
/-- A line made anew: two blocks, one behind the other. -/
def RL (w : World) (q : Nat) (ss : List (BitVec 64)) : Prop := 0 < q ∧ RefAt w q ss [] (some ⟨q - 1, 0, none⟩) 8 none 0
theorem RL.same {w w' : World} {q : Nat} {ss : List (BitVec 64)} (h : RL w q ss) (hs : w.heap.size ≤ w'.heap.size) (h0 : w'.heap[q]? = w.heap[q]?) (h1 : w'.heap[q - 1]? = w.heap[q - 1]?) : RL w' q ss :=
  ⟨h.1, h.2.same hs h0 (fun k hk => by cases hk; exact h1) (fun k hk => by cases hk)⟩
theorem RL.below {w w' : World} {q : Nat} {ss : List (BitVec 64)} (h : RL w q ss) (hb : Below w.heap.size w w') : RL w' q ss := ⟨h.1, h.2.below hb⟩
def LnNewR (lo : Nat) (ss : List (BitVec 64)) : Fact := fun v w => ∃ (q z : Nat), v = .pointer (some ⟨q, 0, none⟩) ∧ lo + 1 ≤ q ∧ RL w q ss
def LnSlR (lo : Nat) (ss : List (BitVec 64)) : Fact := fun v w => ∃ (r q : Nat), v = .slice (some ⟨r, 0, none⟩) 1 1 ∧ lo + 1 ≤ q ∧ lo ≤ r ∧ RL w q ss ∧ w.heap[r]? = some (.cells #[ptr q] 125 (0, 0))
theorem lnNewR_grown {lo : Nat} {ss : List (BitVec 64)} {A : Option Addr} (hA : ∀ k, blk A = some k → k < lo) : Stab (RF A) (LnNewR lo ss) := fun v w w' ⟨q, z, e, hl, hq⟩ h =>
  ⟨q, z, e, hl, hq.same h.size (h.block _ hq.2.lt (fun e => by have := hA _ e.symm; omega)) (h.block _ (by have := hq.2.lt; omega) (fun e => by have := hA _ e.symm; omega))⟩
theorem lnSlR_grown {lo : Nat} {ss : List (BitVec 64)} {A : Option Addr} (hA : ∀ k, blk A = some k → k < lo) : Stab (RF A) (LnSlR lo ss) := fun v w w' ⟨r, q, e, hl, hlr, hq, hr⟩ h =>
  ⟨r, q, e, hl, hlr, hq.same h.size (h.block _ hq.2.lt (fun e => by have := hA _ e.symm; omega)) (h.block _ (by have := hq.2.lt; omega) (fun e => by have := hA _ e.symm; omega)), (h.block r (heap_lt hr) (fun e => by have := hA r e.symm; omega)).trans hr⟩
def RGoodA (lo base : Nat) (A : Option Addr) (bs : List Nat) (ss : List (BitVec 64)) (v : Value) (w : World) : Prop := ∃ (A' : Option Addr) (c' q : Nat), v = .slice A' (bs.length + 1) c' ∧ lo + 1 ≤ q ∧ RL w q ss ∧ OwnF ptr 125 w base A' (bs ++ [q]) c' ∧ blk A' ≠ some q ∧ blk A' ≠ some (q - 1) ∧ (blk A' = blk A ∨ ∀ k, blk A' = some k → lo ≤ k)
def RJF (W : World) (lo base : Nat) (A : Option Addr) (bs : List Nat) (ss : List (BitVec 64)) (listed : Array Bool) (a : Act) (w : World) : Prop :=
  (listed.getD 12 false = false → Stood W.drew w) ∧ W.drew.grownBy w (blk A) ∧ (listed.getD 12 false = true → RGoodA lo base A bs ss (a.tmps.getD 26 undef) w)
theorem RJF.quiet {W : World} {lo base : Nat} {A : Option Addr} {bs : List Nat} {ss : List (BitVec 64)} {listed : Array Bool} {a : Act} {w : World} (h : RJF W lo base A bs ss listed a w) {i : Nat} (hi : i ≠ 12) {o : Oper} (ho : o.dst ≠ some 26) (v : Value) : RJF W lo base A bs ss (listed.setIfInBounds i true) (a.put o.dst v) w := by
  refine ⟨fun h1 => h.1 ?_, h.2.1, fun h1 => ?_⟩
  · rw [getD_set_ne hi] at h1; exact h1
  · rw [getD_put_ne ho]
    rw [getD_set_ne hi] at h1
    exact h.2.2 h1
theorem RJF.more {W : World} {lo base : Nat} {A : Option Addr} {bs : List Nat} {ss : List (BitVec 64)} {listed : Array Bool} {a : Act} {w w' : World} (h : RJF W lo base A bs ss listed a w) (hl : listed.getD 12 false = false) (hs : Stood w w') {i : Nat} (hi : i ≠ 12) {o : Oper} (v : Value) : RJF W lo base A bs ss (listed.setIfInBounds i true) (a.put o.dst v) w' := by
  refine ⟨fun _ => Stood.trans _ _ _ (h.1 hl) hs, RF.trans A _ _ _ h.2.1 (RF.of_stood hs), fun h1 => ?_⟩
  rw [getD_set_ne hi, hl] at h1
  cases h1
set_option maxRecDepth 100000 in
set_option maxHeartbeats 8000000 in
theorem rmNew_any (xs : List (BitVec 64)) (N : Nat) (A : Option Addr) (c : Nat) (w : World) (hr : RdU w A xs) (hc : xs.length ≤ c) (hm : c ≤ maxLen) (hl : xs.length = 8 * N) (hN : N ≤ 1024) (hN0 : 0 < N) :
    Calls Try.prog 39 #[.slice A xs.length c] w fun e w' => (∃ m own G, e = .returned (.pointer (some ⟨m, 0, none⟩)) ∧ RMemAt w' m own G (fromA xs N) ∧ ∀ k, k < w.heap.size → own k = 0) ∧ Below w.heap.size w w' := by
  unfold maxLen at hm
  obtain ⟨xb, xo, rfl, _⟩ := hr.at_ (show 0 < xs.length by omega)
  have HR := Lib.hid hr
  rw [hl] at hc ⊢
  have HXL := Lib.hid hl
  clear hl hr
  have hb1 : Below w.heap.size w (w.alloc (.cells #[.slice none 0 0, .bool false, .int .i64 0, .slice none 0 0, .int .i64 0, .int .i64 0, .int .i64 0] 63)) := (Below.refl _ _).alloc (Nat.le_refl _) _
  have HP0 := Lib.hid (heap_alloc_new w (.cells #[.slice none 0 0, .bool false, .int .i64 0, .slice none 0 0, .int .i64 0, .int .i64 0, .int .i64 0] 63))
  have HB0 := Lib.hid hb1
  clear hb1
  have q1 : ((8 * N : Nat) : Int) = 8 * (N : Int) := by omega
  go_enter Try.func39, Try.ntmps39
  go_wp2
  obtain ⟨p, hpw⟩ : ∃ p, w.heap.size = p := ⟨_, rfl⟩
  rw [hpw] at HP0 ⊢
  go_loopw [4] (fun i wr => ∃ (k : Nat) (A2 : Option Addr) (d : Nat) (bs : List Nat), k ≤ N ∧ i = .int .i64 (8 * (k : Int)) ∧ wr.heap[p]? = some (.cells #[.slice A2 bs.length d, .bool false, .int .i64 0, .slice none 0 0, .int .i64 0, .int .i64 0, .int .i64 0] 63 (0, 0)) ∧ OwnF ptr 125 wr (p + 1) A2 bs d ∧ bs.length = k ∧ (∀ (i b9 : Nat), bs[i]? = some b9 → p + 1 < b9 ∧ b9 < wr.heap.size ∧ blk A2 ≠ some b9 ∧ blk A2 ≠ some (b9 - 1) ∧ RL wr b9 (chunkL xs i)) ∧ (∀ (i j bi bj : Nat), i < j → bs[i]? = some bi → bs[j]? = some bj → bi + 2 ≤ bj) ∧ Below w.heap.size w wr) (fun i _ => 8 * N - (intOf i).toNat)
  case atStart => exact ⟨0, none, 0, [], Nat.zero_le _, rfl, HP0.out, OwnF.nil_ _ _, rfl, (fun i b h => by simp at h), (fun i j bi bj _ h => by simp at h), HB0.out⟩
  case round =>
    clear HP0 HB0
    skip
    obtain ⟨k, A2, d, bs, hk, rfl, hp, ho, hbl, hln, hgp, hb⟩ := hrel
    have HP := Lib.hid hp
    have HO := Lib.hid ho
    have HBL := Lib.hid hbl
    have HLN := Lib.hid hln
    have HGP := Lib.hid hgp
    have HB := Lib.hid hb
    clear hp ho hbl hln hgp hb
    have e8 : IntKind.i64.wrap (8 * (k : Int) + 8) = 8 * (k : Int) + 8 := IntWalk.i64_in _ (by omega)
    by_cases hlt : k < N
    · have hlt2 : 8 * (k : Int) + 8 ≤ 8 * (N : Int) := by omega
      have HCL := Lib.hid (chunkL_len HXL.out hlt)
      have HRD := Lib.hid (show ∀ W, Below wr.heap.size wr W → RdU W (some ⟨xb, xo + 8 * k, none⟩) (chunkL xs k) from fun W hW => ((RdF.drop ((HR.out.below HB.out).below hW) (8 * k)).take 8))
      have i1 : 8 * (k : Int) ≤ 8 * (k : Int) + 8 := by omega
      have i2 : 8 * (k : Int) + 8 ≤ (c : Int) := by omega
      have i3 : (0 : Int) ≤ 8 * (k : Int) := by omega
      go_wp2_with fail
      apply wp_region_ja (RF A2) (RF.trans A2) (RF.refl A2) (RJF wr wr.heap.size (p + 1) A2 bs (chunkL xs k)) 30 15 (Eqs _ :: Eqs _ :: Eqs _ :: Eqs _ :: Eqs _ :: Eqs _ :: Eqs _ :: Eqs _ :: Eqs _ :: Eqs _ :: (LnNewR wr.heap.size (chunkL xs k)) :: (LnSlR wr.heap.size (chunkL xs k)) :: (fun _ _ => True) :: Eqs _ :: Eqs _ :: []) (by kernel_rfl) (by rfl) rfl (stab_cons (stab_eq _) (stab_cons (stab_eq _) (stab_cons (stab_eq _) (stab_cons (stab_eq _) (stab_cons (stab_eq _) (stab_cons (stab_eq _) (stab_cons (stab_eq _) (stab_cons (stab_eq _) (stab_cons (stab_eq _) (stab_cons (stab_eq _) (stab_cons (lnNewR_grown (fun k hk => (HO.out.lt k hk).2)) (stab_cons (lnSlR_grown (fun k hk => (HO.out.lt k hk).2)) (stab_cons stab_true (stab_cons (stab_eq _) (stab_cons (stab_eq _) stab_nil))))))))))))))) (by kernel_rfl) (by kernel_rfl) (by kernel_rfl) (by kernel_rfl)
      case h0 =>
        exact ⟨fun _ => Stood.refl _, RF.refl _ _, fun h => by simp at h⟩
      case hstep =>
        simp only [List.take_succ_cons, List.take_zero]
        refine ⟨?_, ?_⟩
        · -- 0: Go.Op.move (Go.Operand.tmp 3)
          intro listed a w1 hJ hls hl0 hlw hlc hF hU hsz
          have e3 : a.eval (.tmp 3) = _ := hU 3 (by kernel_rfl)
          rw [if_pos (by rfl)]
          intro K hK
          clear hF hU hsz
          obtain ⟨q1, q2, q3⟩ := eval_rest a
          generalize hρ : a.eval = ρ
          rw [hρ] at q1 q2 q3 e3
          clear hρ
          have u1 := OpUp_value Try.prog K
          have u2 := OpUp_enter Try.prog K
          go_simp
          exact hK _ _ ((hJ.quiet (by decide) (by decide) _)) ((RF.refl A2) _) rfl
        refine ⟨?_, ?_⟩
        · -- 1: Go.Op.move (Go.Operand.tmp 3)
          intro listed a w1 hJ hls hl0 hlw hlc hF hU hsz
          have e3 : a.eval (.tmp 3) = _ := hU 3 (by kernel_rfl)
          rw [if_pos (by rfl)]
          intro K hK
          clear hF hU hsz
          obtain ⟨q1, q2, q3⟩ := eval_rest a
          generalize hρ : a.eval = ρ
          rw [hρ] at q1 q2 q3 e3
          clear hρ
          have u1 := OpUp_value Try.prog K
          have u2 := OpUp_enter Try.prog K
          go_simp
          exact hK _ _ ((hJ.quiet (by decide) (by decide) _)) ((RF.refl A2) _) rfl
        refine ⟨?_, ?_⟩
        · -- 2: Go.Op.nilCheck (Go.Operand.tmp 15)
          intro listed a w1 hJ hls hl0 hlw hlc hF hU hsz
          have e15 : a.eval (.tmp 15) = _ := hF 1 _ _ rfl rfl (by kernel_rfl)
          rw [if_pos (by rfl)]
          intro K hK
          clear hF hU hsz
          obtain ⟨q1, q2, q3⟩ := eval_rest a
          generalize hρ : a.eval = ρ
          rw [hρ] at q1 q2 q3 e15
          clear hρ
          have u1 := OpUp_value Try.prog K
          have u2 := OpUp_enter Try.prog K
          go_simp
          exact hK _ _ ((hJ.quiet (by decide) (by decide) _)) ((RF.refl A2) _) rfl
        refine ⟨?_, ?_⟩
        · -- 3: Go.Op.fieldAddr 63 (Go.Operand.tmp 16) 0
          intro listed a w1 hJ hls hl0 hlw hlc hF hU hsz
          have e16 : a.eval (.tmp 16) = _ := hF 2 _ _ rfl rfl (by kernel_rfl)
          rw [if_pos (by rfl)]
          intro K hK
          clear hF hU hsz
          obtain ⟨q1, q2, q3⟩ := eval_rest a
          generalize hρ : a.eval = ρ
          rw [hρ] at q1 q2 q3 e16
          clear hρ
          have u1 := OpUp_value Try.prog K
          have u2 := OpUp_enter Try.prog K
          go_simp
          exact hK _ _ ((hJ.quiet (by decide) (by decide) _)) ((RF.refl A2) _) rfl
        refine ⟨?_, ?_⟩
        · -- 4: Go.Op.load 61 (Go.Operand.tmp 17)
          intro listed a w1 hJ hls hl0 hlw hlc hF hU hsz
          have e17 : a.eval (.tmp 17) = _ := hF 3 _ _ rfl rfl (by kernel_rfl)
          rw [if_pos (by rfl)]
          intro K hK
          clear hF hU hsz
          have c0_ := Lib.cell_of_heap ((hJ.2.1.block p (heap_lt HP.out) (fun e => by have := (HO.out.lt _ e.symm).1; omega)).trans HP.out) 0
          obtain ⟨q1, q2, q3⟩ := eval_rest a
          generalize hρ : a.eval = ρ
          rw [hρ] at q1 q2 q3 e17
          clear hρ
          have u1 := OpUp_value Try.prog K
          have u2 := OpUp_enter Try.prog K
          go_simp
          exact hK _ _ ((hJ.quiet (by decide) (by decide) _)) ((RF.refl A2) _) rfl
        refine ⟨?_, ?_⟩
        · -- 5: Go.Op.move (Go.Operand.tmp 0)
          intro listed a w1 hJ hls hl0 hlw hlc hF hU hsz
          have e0 : a.eval (.tmp 0) = _ := hU 0 (by kernel_rfl)
          rw [if_pos (by rfl)]
          intro K hK
          clear hF hU hsz
          obtain ⟨q1, q2, q3⟩ := eval_rest a
          generalize hρ : a.eval = ρ
          rw [hρ] at q1 q2 q3 e0
          clear hρ
          have u1 := OpUp_value Try.prog K
          have u2 := OpUp_enter Try.prog K
          go_simp
          exact hK _ _ ((hJ.quiet (by decide) (by decide) _)) ((RF.refl A2) _) rfl
        refine ⟨?_, ?_⟩
        · -- 6: Go.Op.move (Go.Operand.tmp 4)
          intro listed a w1 hJ hls hl0 hlw hlc hF hU hsz
          have e4 : a.eval (.tmp 4) = _ := hU 4 (by kernel_rfl)
          rw [if_pos (by rfl)]
          intro K hK
          clear hF hU hsz
          obtain ⟨q1, q2, q3⟩ := eval_rest a
          generalize hρ : a.eval = ρ
          rw [hρ] at q1 q2 q3 e4
          clear hρ
          have u1 := OpUp_value Try.prog K
          have u2 := OpUp_enter Try.prog K
          go_simp
          exact hK _ _ ((hJ.quiet (by decide) (by decide) _)) ((RF.refl A2) _) rfl
        refine ⟨?_, ?_⟩
        · -- 7: Go.Op.move (Go.Operand.tmp 4)
          intro listed a w1 hJ hls hl0 hlw hlc hF hU hsz
          have e4 : a.eval (.tmp 4) = _ := hU 4 (by kernel_rfl)
          rw [if_pos (by rfl)]
          intro K hK
          clear hF hU hsz
          obtain ⟨q1, q2, q3⟩ := eval_rest a
          generalize hρ : a.eval = ρ
          rw [hρ] at q1 q2 q3 e4
          clear hρ
          have u1 := OpUp_value Try.prog K
          have u2 := OpUp_enter Try.prog K
          go_simp
          exact hK _ _ ((hJ.quiet (by decide) (by decide) _)) ((RF.refl A2) _) rfl
        refine ⟨?_, ?_⟩
        · -- 8: Go.Op.binOp Go.BinOp.add 3 (Go.Operand.tmp 21) (Go.Operand.const (Go.Value.int G
          intro listed a w1 hJ hls hl0 hlw hlc hF hU hsz
          have e21 : a.eval (.tmp 21) = _ := hF 7 _ _ rfl rfl (by kernel_rfl)
          rw [if_pos (by rfl)]
          intro K hK
          clear hF hU hsz
          obtain ⟨q1, q2, q3⟩ := eval_rest a
          generalize hρ : a.eval = ρ
          rw [hρ] at q1 q2 q3 e21
          clear hρ
          have u1 := OpUp_value Try.prog K
          have u2 := OpUp_enter Try.prog K
          go_simp
          exact hK _ _ ((hJ.quiet (by decide) (by decide) _)) ((RF.refl A2) _) rfl
        refine ⟨?_, ?_⟩
        · -- 9: Go.Op.slice 44 (Go.Operand.tmp 19) (some (Go.Operand.tmp 20)) (some (Go.Operand.
          intro listed a w1 hJ hls hl0 hlw hlc hF hU hsz
          have e19 : a.eval (.tmp 19) = _ := hF 5 _ _ rfl rfl (by kernel_rfl)
          have e20 : a.eval (.tmp 20) = _ := hF 6 _ _ rfl rfl (by kernel_rfl)
          have e22 : a.eval (.tmp 22) = _ := hF 8 _ _ rfl rfl (by kernel_rfl)
          rw [if_pos (by rfl)]
          intro K hK
          clear hF hU hsz
          obtain ⟨q1, q2, q3⟩ := eval_rest a
          generalize hρ : a.eval = ρ
          rw [hρ] at q1 q2 q3 e19 e20 e22
          clear hρ
          have u1 := OpUp_value Try.prog K
          have u2 := OpUp_enter Try.prog K
          go_simp
          exact hK _ _ ((hJ.quiet (by decide) (by decide) _)) ((RF.refl A2) _) rfl
        refine ⟨?_, ?_⟩
        · -- 10: Go.Op.call { callee := Go.Callee.value (Go.Operand.func 85), args := #[Go.Operan
          intro listed a w1 hJ hls hl0 hlw hlc hF hU hsz
          have e23 : a.eval (.tmp 23) = _ := hF 9 _ _ rfl rfl (by kernel_rfl)
          rw [if_pos (by rfl)]
          intro K hK
          clear hF hU hsz
          rw [show (8 * (k : Int)).toNat = 8 * k by omega, show (8 * (k : Int) + 8).toNat = 8 * k + 8 by omega, if_neg (by omega), show 8 * k + 8 - 8 * k = 8 by omega] at e23
          obtain ⟨q1, q2, q3⟩ := eval_rest a
          generalize hρ : a.eval = ρ
          rw [hρ] at q1 q2 q3 e23
          clear hρ
          have u1 := OpUp_value Try.prog K
          have u2 := OpUp_enter Try.prog K
          go_simp
          have KNL := rNew_any (some ⟨xb, xo + 8 * k, none⟩) (chunkL xs k) (c - 8 * k) w1 (HRD.out w1 (Stood.cur (hJ.1 (hlc 12 _ rfl (by kernel_rfl))))) (by rw [HCL.out]; omega)
          rw [HCL.out] at KNL
          refine KNL.mono ?_
          rintro e w' ⟨rfl, hln, hb⟩
          rw [Nat.min_self, f8_all HCL.out] at hln
          exact ⟨_, rfl, hK _ _ (hJ.more (hlc 12 _ rfl (by kernel_rfl)) hb (by decide) _) (RF.of_stood hb) ⟨_, 0, rfl, Nat.succ_le_succ (hJ.1 (hlc 12 _ rfl (by kernel_rfl))).size, ⟨Nat.succ_pos _, hln⟩⟩⟩
        refine ⟨?_, ?_⟩
        · -- 11: Go.Op.buildSlice 61 1 #[(0, Go.Operand.tmp 24)]
          intro listed a w1 hJ hls hl0 hlw hlc hF hU hsz
          have e24 := hF 10 _ _ rfl rfl (by kernel_rfl)
          obtain ⟨B24, d24, e24, r24⟩ := e24
          have e24 : a.eval (.tmp 24) = _ := e24
          rw [if_pos (by rfl)]
          intro K hK
          clear hF hU hsz
          obtain ⟨q1, q2, q3⟩ := eval_rest a
          generalize hρ : a.eval = ρ
          rw [hρ] at q1 q2 q3 e24
          clear hρ
          have u1 := OpUp_value Try.prog K
          have u2 := OpUp_enter Try.prog K
          go_simp
          exact hK _ _ (hJ.more (hlc 12 _ rfl (by kernel_rfl)) ((Below.refl _ _).alloc (Nat.le_refl _) _) (by decide) _) (RF.of_stood ((Below.refl _ _).alloc (Nat.le_refl _) _)) ⟨_, B24, rfl, r24.1, (hJ.1 (hlc 12 _ rfl (by kernel_rfl))).size, r24.2.below ((Below.refl _ _).alloc (Nat.le_refl _) _), heap_alloc_new w1 _⟩
        refine ⟨?_, ?_⟩
        · -- 12: Go.Op.call { callee := Go.Callee.builtin Go.Builtin.append, args := #[Go.Operand
          intro listed a w1 hJ hls hl0 hlw hlc hF hU hsz
          have e18 : a.eval (.tmp 18) = _ := hF 4 _ _ rfl rfl (by kernel_rfl)
          have e25 := hF 11 _ _ rfl rfl (by kernel_rfl)
          obtain ⟨B25, d25, e25, r25⟩ := e25
          have e25 : a.eval (.tmp 25) = _ := e25
          rw [if_pos (by rfl)]
          intro K hK
          clear hF hU
          have hsz9 : 26 < a.tmps.size := by rw [hsz]; simp only [List.size_toArray, List.length_cons, List.length_nil]; omega
          obtain ⟨q1, q2, q3⟩ := eval_rest a
          generalize hρ : a.eval = ρ
          rw [hρ] at q1 q2 q3 e18 e25
          clear hρ
          have u1 := OpUp_value Try.prog K
          have u2 := OpUp_enter Try.prog K
          obtain ⟨i9, hi9, hz0, hz1, hz2⟩ := info_parts infoRLn
          obtain ⟨hq1, hq1r, hq2, hq3⟩ := r25
          have hst := Stood.cur (hJ.1 hl0)
          have hown := HO.out.below hst
          have hrd : Rd w1 (some ⟨B25, 0, none⟩) [ptr d25] := .inr ⟨B25, 0, rfl, fun k hk => by
            obtain rfl : k = 0 := by simpa using hk
            exact Lib.cell_of_heap hq3 0⟩
          have hbl := HBL.out
          refine OpUp_app (.tmp 18) (.tmp 25) 61 rfl (p + 1) 125 i9 _ 1 8 Try.underlying61 hi9 hz0 hz1 hz2 rfl (by omega) (by omega) A2 bs.length d _ e18 hown (some ⟨B25, 0, none⟩) 1 1 [ptr d25] e25 rfl hrd (by intro u hu; rw [List.mem_singleton.1 hu]; rfl) (by omega) (by have := hst.size; have : wr.drew.heap.size = wr.heap.size := rfl; have := heap_lt HP.out; omega) ?_
          intro A9 c9 w9 h91 h92 h93
          have hgood : RGoodA wr.heap.size (p + 1) A2 bs (chunkL xs k) (.slice A9 (bs.length + 1) c9) w9 := by
            have hA0 := HO.out.lt
            have hszs : wr.heap.size ≤ w1.heap.size := hst.size
            have hql := hq2.2.lt
            have hdis : ∀ y, y < w1.heap.size → wr.heap.size ≤ y → blk A9 ≠ some y := fun y h1 h2 e => by
              rcases h93 with h | h
              · rw [h] at e; have := (hA0 _ e).2; omega
              · rw [h] at e; injection e with e; omega
            refine ⟨A9, c9, d25, rfl, hq1, hq2.same h92.size (h92.block _ hql (fun e => by have := (hA0 _ e.symm).2; omega)) (h92.block _ (by show d25 - 1 < w1.heap.size; omega) (fun e => by have := (hA0 _ e.symm).2; omega)), ?_, hdis _ hql (by omega), hdis _ (by omega) (by omega), ?_⟩
            · show w9.ownsRow _ _ _ _ _ _
              rw [List.length_append, List.map_append]
              exact h91
            · rcases h93 with h | h
              · exact .inl h
              · refine .inr fun k hk => ?_
                rw [h] at hk; injection hk with hk; omega
          refine hK _ _ ⟨fun h => ?_, RF.trans A2 _ _ _ hJ.2.1 h92, fun _ => ?_⟩ h92 trivial
          · rw [getD_set_eq hls] at h; cases h
          · have e : (a.put (some 26) (.slice A9 (bs.length + 1) c9)).tmps.getD 26 undef = .slice A9 (bs.length + 1) c9 := by
              simp [Act.put, Array.getD_eq_getD_getElem?, hsz9]
            rw [e]
            exact hgood
        refine ⟨?_, ?_⟩
        · -- 13: Go.Op.nilCheck (Go.Operand.tmp 14)
          intro listed a w1 hJ hls hl0 hlw hlc hF hU hsz
          have e14 : a.eval (.tmp 14) = _ := hF 0 _ _ rfl rfl (by kernel_rfl)
          rw [if_pos (by rfl)]
          intro K hK
          clear hF hU hsz
          obtain ⟨q1, q2, q3⟩ := eval_rest a
          generalize hρ : a.eval = ρ
          rw [hρ] at q1 q2 q3 e14
          clear hρ
          have u1 := OpUp_value Try.prog K
          have u2 := OpUp_enter Try.prog K
          go_simp
          exact hK _ _ ((hJ.quiet (by decide) (by decide) _)) ((RF.refl A2) _) rfl
        refine ⟨?_, ?_⟩
        · -- 14: Go.Op.fieldAddr 63 (Go.Operand.tmp 27) 0
          intro listed a w1 hJ hls hl0 hlw hlc hF hU hsz
          have e27 : a.eval (.tmp 27) = _ := hF 13 _ _ rfl rfl (by kernel_rfl)
          rw [if_pos (by rfl)]
          intro K hK
          clear hF hU hsz
          obtain ⟨q1, q2, q3⟩ := eval_rest a
          generalize hρ : a.eval = ρ
          rw [hρ] at q1 q2 q3 e27
          clear hρ
          have u1 := OpUp_value Try.prog K
          have u2 := OpUp_enter Try.prog K
          go_simp
          exact hK _ _ ((hJ.quiet (by decide) (by decide) _)) ((RF.refl A2) _) rfl
        exact trivial
      case hend =>
        intro vs0 w1 listed hJ hl1 hl2 hH0
        obtain ⟨vs1, rfl, hH1⟩ := hH0.eq_
        obtain ⟨vs2, rfl, hH2⟩ := hH1.eq_
        obtain ⟨vs3, rfl, hH3⟩ := hH2.eq_
        obtain ⟨vs4, rfl, hH4⟩ := hH3.eq_
        obtain ⟨vs5, rfl, hH5⟩ := hH4.eq_
        obtain ⟨vs6, rfl, hH6⟩ := hH5.eq_
        obtain ⟨vs7, rfl, hH7⟩ := hH6.eq_
        obtain ⟨vs8, rfl, hH8⟩ := hH7.eq_
        obtain ⟨vs9, rfl, hH9⟩ := hH8.eq_
        obtain ⟨vs10, rfl, hH10⟩ := hH9.eq_
        obtain ⟨v10, vs11, rfl, hv10, hH11⟩ := hH10.cons
        obtain ⟨v11, vs12, rfl, hv11, hH12⟩ := hH11.cons
        obtain ⟨v12, vs13, rfl, hv12, hH13⟩ := hH12.cons
        obtain ⟨vs14, rfl, hH14⟩ := hH13.eq_
        obtain ⟨vs15, rfl, hH15⟩ := hH14.eq_
        obtain rfl := hH15.nil
        clear hH0 hH1 hH2 hH3 hH4 hH5 hH6 hH7 hH8 hH9 hH10 hH11 hH12 hH13 hH14 hH15
        simp only [List.take_succ_cons, List.take_zero, putAll, Act.put, List.setIfInBounds_toArray, List.set_cons_zero, List.set_cons_succ]
        obtain ⟨q6, z6, rfl, _, _⟩ := hv10
        obtain ⟨r7, q7, rfl, _, _, _, _⟩ := hv11
        have hJ8 := hJ.2.2 (hl1 12 (by decide))
        have hg2 := hJ.2.1
        clear hJ
        simp only [List.take_succ_cons, List.take_zero, putAll, Act.put, List.setIfInBounds_toArray, List.set_cons_zero, List.set_cons_succ] at hJ8
        obtain ⟨B2, d2, q, hv, hq1, hq2, hown2, hqB, hqB1, hnew⟩ := hJ8
        obtain rfl : v12 = .slice B2 (bs.length + 1) d2 := hv
        clear hl1 hl2 hv12
        have hplt := heap_lt HP.out
        have hA0 := HO.out.lt
        have hwz : wr.drew.heap.size = wr.heap.size := rfl
        have hws := hg2.size
        have hneA : ∀ k, k < p + 1 → ¬ some k = blk A2 := fun k hk e => by have := (hA0 k e.symm).1; omega
        have hP3 : w1.heap[p]? = some _ := (hg2.block p (by omega) (fun e => hneA p (by omega) e)).trans HP.out
        have hb3 := (HB.out.drew).grown hg2 (by rw [hwz]; exact HB.out.size) (fun j hj => by have := (hA0 j hj).1; omega)
        have c0_ := Lib.cell_of_heap hP3 0
        have z0_ := Lib.frozen_of_heap hP3 0
        have hQ4 := heap_set1 0 hP3 (.slice B2 (bs.length + 1) d2)
        simp only [List.setIfInBounds_toArray, List.set_cons_zero, List.set_cons_succ] at hQ4
        have HP4 := Lib.hid hQ4
        have HB4 := Lib.hid (hb3.setCell (p := ⟨p, 0, none⟩) (Nat.le_of_eq hpw) (.slice B2 (bs.length + 1) d2))
        have HO4 := Lib.hid (hown2.kept (grownBy_setAt' w1 p 0 (.slice B2 (bs.length + 1) d2)) (by
          cases hB : blk B2 with
          | none => exact .inl rfl
          | some j => exact .inr (fun e => by cases e; have h1 := (hown2.lt _ hB).1; omega)))
        have HL4 := Lib.hid (show ∀ (i b9 : Nat), (bs ++ [q])[i]? = some b9 → p + 1 < b9 ∧ b9 < (w1.setCell ⟨p, 0, none⟩ (.slice B2 (bs.length + 1) d2)).heap.size ∧ blk B2 ≠ some b9 ∧ blk B2 ≠ some (b9 - 1) ∧ RL (w1.setCell ⟨p, 0, none⟩ (.slice B2 (bs.length + 1) d2)) b9 (chunkL xs i) from by
          have hs9 : (w1.setCell ⟨p, 0, none⟩ (.slice B2 (bs.length + 1) d2)).heap.size = w1.heap.size := by simp [World.setCell]
          intro i b9 h1
          by_cases hi : i < bs.length
          · rw [List.getElem?_append_left hi] at h1
            obtain ⟨k1, k2, k3, k4, k5⟩ := HLN.out i b9 h1
            have hB2 : ∀ y, y < wr.heap.size → blk A2 ≠ some y → blk B2 ≠ some y := fun y h1 h2 e => by
              rcases hnew with h | h
              · rw [h] at e; exact h2 e
              · have := h y e; omega
            refine ⟨k1, by omega, hB2 _ k2 k3, hB2 _ (by omega) k4, ?_⟩
            refine (k5.same (w' := w1) hg2.size ?_ ?_).same (Nat.le_of_eq hs9.symm) (Below.heap_setCell _ _ _ _ (by simp; omega)) (Below.heap_setCell _ _ _ _ (by simp; omega))
            · exact hg2.block _ k2 (fun e => k3 e.symm)
            · exact hg2.block _ (by show b9 - 1 < wr.heap.size; omega) (fun e => k4 e.symm)
          · have hi2 : i = bs.length := by
              have := (List.getElem?_eq_some_iff.1 h1).1
              simp at this; omega
            subst hi2
            rw [List.getElem?_append_right (Nat.le_refl _), Nat.sub_self] at h1
            obtain rfl : q = b9 := by simpa using h1
            have hql := hq2.2.lt
            refine ⟨by omega, by omega, hqB, hqB1, ?_⟩
            have hcc : chunkL xs bs.length = chunkL xs k := by rw [HBL.out]
            rw [hcc]
            exact hq2.same (Nat.le_of_eq hs9.symm) (Below.heap_setCell _ _ _ _ (by simp; omega)) (Below.heap_setCell _ _ _ _ (by simp; omega)))
        have HGP4 := Lib.hid (show ∀ (i j bi bj : Nat), i < j → (bs ++ [q])[i]? = some bi → (bs ++ [q])[j]? = some bj → bi + 2 ≤ bj from by
          intro i j bi bj hij h1 h2
          have hj := (List.getElem?_eq_some_iff.1 h2).1
          have hi : i < bs.length := by simp at hj; omega
          rw [List.getElem?_append_left hi] at h1
          by_cases hj2 : j < bs.length
          · rw [List.getElem?_append_left hj2] at h2
            exact HGP.out i j bi bj hij h1 h2
          · rw [List.getElem?_append_right (by omega), show j - bs.length = 0 by simp at hj; omega] at h2
            obtain rfl : q = bj := by simpa using h2
            have := (HLN.out i bi h1).2.1
            omega)
        have hul : (bs ++ [q]).length = bs.length + 1 := by simp
        have HUL := Lib.hid hul
        have HBL2 := HBL
        clear hg2 hown2 hP3 hQ4 hb3 hws hq1 hq2 hneA hA0 hul hqB hqB1 hnew
        go_wp2
        go_roundw
        case rel => exact ⟨k + 1, B2, d2, bs ++ [q], by omega, by go_num, by rw [HUL.out]; exact HP4.out, HO4.out, by rw [HUL.out, HBL2.out], HL4.out, HGP4.out, HB4.out⟩
        case measure => simp [intOf]; omega
    · obtain rfl : k = N := by omega
      have HRET := Lib.hid (show ∃ own G, RMemAt wr p own G (fromA xs k) ∧ ∀ j, j < w.heap.size → own j = 0 from by
        have hA := HO.out.lt
        have hln := HLN.out
        have hgp := HGP.out
        have hbl := HBL.out
        have hp := HP.out
        have hplt := heap_lt hp
        have hnd : bs.Nodup := List.pairwise_iff_getElem.2 fun i j hi hj hij e => by
          have := hgp i j _ _ hij (List.getElem?_eq_getElem hi) (List.getElem?_eq_getElem hj)
          omega
        refine ⟨(fun k => if k = p then 1 else if blk A2 = some k then 2 else if k ∈ bs then bs.idxOf k + 3 else if k + 1 ∈ bs then bs.idxOf (k + 1) + 3 else 0), ⟨A2, d, bs⟩, ⟨⟨0, none, 0, hp, rfl, .inl rfl, Nat.le_refl _, by simp [maxLen], fun q h => by cases h⟩, ⟨HO.out.rd, HO.out.cap.1, HO.out.cap.2, fun q hq => ?_⟩, by rw [fromA, fromL_len]; exact hbl, by rw [fromA, fromL_len]; exact hN, fun i hi => ?_, if_pos rfl, fun j hj => ?_⟩, fun j hj => ?_⟩
        · try simp only
          rw [if_neg (by have := (hA q hq).1; omega), if_pos hq]
        · have hib : i < bs.length := by rw [fromA, fromL_len] at hi; omega
          have e : (fromA xs k).ls[i]'hi = ⟨chunkL xs i, [], 0⟩ := by simp [fromA, fromL]
          obtain ⟨k1, k2, k3, k4, k5⟩ := hln i bs[i] (List.getElem?_eq_getElem hib)
          show RLnAt wr _ i bs[i] ((fromA xs k).ls[i]'hi)
          rw [e]
          refine ⟨⟨chunkL_len HXL.out (by omega), by simp, Nat.le_refl _⟩, ?_, _, _, _, _, k5.2, fun q hq => ?_⟩
          · try simp only
            rw [if_neg (by omega), if_neg k3, if_pos (List.getElem_mem hib), hnd.idxOf_getElem]
          · rcases hq with hq | hq
            · cases hq
              have hm1 : bs[i] - 1 ∉ bs := by
                intro hmem
                obtain ⟨j, hj, hje⟩ := List.getElem_of_mem hmem
                rcases Nat.lt_trichotomy i j with h | h | h
                · have := hgp i j _ _ h (List.getElem?_eq_getElem hib) (List.getElem?_eq_getElem hj); omega
                · subst h; omega
                · have := hgp j i _ _ h (List.getElem?_eq_getElem hj) (List.getElem?_eq_getElem hib); omega
              try simp only
              rw [if_neg (by show ¬ bs[i] - 1 = p; omega), if_neg k4, if_neg hm1, show bs[i] - 1 + 1 = bs[i] by omega, if_pos (List.getElem_mem hib), hnd.idxOf_getElem]
            · cases hq
        · try simp only
          rw [if_neg (by omega), if_neg (fun e => by have := (hA j e).2; omega), if_neg, if_neg]
          · intro hmem
            obtain ⟨i, hi, hie⟩ := List.getElem_of_mem hmem
            have := (hln i _ (List.getElem?_eq_getElem hi)).2.1
            omega
          · intro hmem
            obtain ⟨i, hi, hie⟩ := List.getElem_of_mem hmem
            have := (hln i _ (List.getElem?_eq_getElem hi)).2.1
            omega
        · try simp only
          rw [if_neg (by omega), if_neg (fun e => by have := (hA j e).1; omega), if_neg, if_neg]
          · intro hmem
            obtain ⟨i, hi, hie⟩ := List.getElem_of_mem hmem
            have := (hln i _ (List.getElem?_eq_getElem hi)).1
            omega
          · intro hmem
            obtain ⟨i, hi, hie⟩ := List.getElem_of_mem hmem
            have := (hln i _ (List.getElem?_eq_getElem hi)).1
            omega)
      go_wp2
      go_ret
      obtain ⟨own, G, h1, h2⟩ := HRET.out
      exact ⟨⟨p, own, G, rfl, h1, h2⟩, HB.out⟩
end Go.Proofs.Ytoifejinppjeeaa
