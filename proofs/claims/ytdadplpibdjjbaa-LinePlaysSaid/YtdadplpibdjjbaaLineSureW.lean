/- The walk of the statement LineSure. Condition: the slices can be read. -/
import Derived.Test.YtdadplpibdjjbaaLineWalks2
import Derived.Test.YtdadplpibdjjbaaActs
import Derived.Test.YtdadplpibdjjbaaSame3
import Derived.Test.YtdadplpibdjjbaaEngQ
import Derived.KernelRfl
namespace Go.Proofs.Ytdadplpibdjjbaa
open Go.RowKit
set_option linter.unusedVariables false
set_option linter.unusedSimpArgs false
theorem lineAwake_any (w : World) : Calls Try.prog 16 #[] w fun e w' => e = .returned (.bool true) ∧ Below w.heap.size w w' :=
  Eng.isTrue_ok (by kernel_rfl) (by kernel_rfl) (lf := 5000) (d := 200) (by kernel_rfl) w
def okS (os : List St) : Prop := ∀ s ∈ os, 0 ≤ s.1 ∧ s.1 < 8
theorem okS_push {os : List St} (h : okS os) (z : Int) (v : BitVec 64) : okS (if 0 ≤ z ∧ z < 8 then os ++ [(z, v)] else os) := by
  split
  · rename_i hz
    intro s hs
    rcases List.mem_append.1 hs with hs | hs
    · exact h s hs
    · simp at hs
      rw [hs]
      exact hz
  · exact h
theorem okS_len {os : List St} {k : Nat} (h : os.length ≤ k) (z : Int) (v : BitVec 64) : (if 0 ≤ z ∧ z < 8 then os ++ [(z, v)] else os).length ≤ k + 1 := by
  split
  · rw [List.length_append]; simp; omega
  · omega
/-- Eight words of the law's own, away from the line's blocks. -/
structure KeepQ (w : World) (x : Nat) (B A : Option Addr) (s1 : List (BitVec 64)) : Prop where
  len : s1.length = 8
  at_ : ∃ q, A = some ⟨q, 0, none⟩ ∧ q ≠ x ∧ blk B ≠ some q ∧ ∀ k, (h : k < s1.length) → w.cell? ⟨q, k, none⟩ = some (U s1[k])
theorem KeepQ.rd {w : World} {x : Nat} {B A : Option Addr} {s1 : List (BitVec 64)} (h : KeepQ w x B A s1) : RdU w A s1 := by
  obtain ⟨q, rfl, _, _, hc⟩ := h.at_
  exact .inr ⟨q, 0, rfl, fun k hk => by rw [Nat.zero_add]; exact hc k hk⟩
theorem KeepQ.below {w w' : World} {x : Nat} {B A : Option Addr} {s1 : List (BitVec 64)} (h : KeepQ w x B A s1) (hb : Below w.heap.size w w') : KeepQ w' x B A s1 := by
  obtain ⟨q, hA, h1, h2, hc⟩ := h.at_
  exact ⟨h.len, q, hA, h1, h2, fun k hk => (hb.cell (p := ⟨q, k, none⟩) (cell_lt (hc k hk))).trans (hc k hk)⟩
theorem KeepQ.fr {w w' : World} {x : Nat} {B B' A : Option Addr} {s1 : List (BitVec 64)} (h : KeepQ w x B A s1) {r : Option Nat} (hF : Fr w w' x r) (hr : r = none ∨ r = blk B) (hB : ∀ k, blk B' = some k → blk B = some k ∨ w.heap.size ≤ k) : KeepQ w' x B' A s1 := by
  obtain ⟨q, hA, h1, h2, hc⟩ := h.at_
  have hq : q < w.heap.size := cell_lt (hc 0 (by rw [h.len]; omega))
  refine ⟨h.len, q, hA, h1, fun e => ?_, fun k hk => ?_⟩
  · rcases hB q e with e2 | e2
    · exact h2 e2
    · omega
  · have hr2 : r ≠ some q := by
      rcases hr with rfl | rfl
      · exact fun e => by cases e
      · exact h2
    have hb := hF.block q hq h1 hr2
    exact (World.cell?_of_block (w := w) (a := ⟨q, k, none⟩) hb).trans (hc k hk)
theorem keepQ_store {w w' : World} {x : Nat} {B B' A : Option Addr} {s1 : List (BitVec 64)} {ss : List (BitVec 64)} {os : List St} {d : Nat} {fl : Int} (h : KeepQ w x B A s1) (hA : LineAt w x ss os B d fl) (hF : Fr w w' x (blk B)) (hB : ∀ k, blk B' = some k → blk B = some k ∨ w.heap.size ≤ k) : KeepQ w' x B' A s1 :=
  h.fr hF (.inr rfl) hB
set_option maxRecDepth 100000 in
set_option maxHeartbeats 4000000 in
theorem LineSure_walk (l : List Ac) (L : Option Addr) (lc : Nat) (m : List Ac) (M : Option Addr) (mc : Nat) (w : World) (hl : RdA w L l ∧ AcFit l) (hlc : l.length ≤ lc) (hlm : lc ≤ maxLen) (hm : RdA w M m ∧ AcFit m) (hmc : m.length ≤ mc) (hmm : mc ≤ maxLen) :
    Calls Try.prog 6 #[.slice L l.length lc, .slice M m.length mc] w fun e w' => e = .returned (.bool true) ∧ Below w.heap.size w w' := by
  have HL := Lib.hid hl.1
  have HM := Lib.hid hm.1
  clear hl hm
  unfold maxLen at hlm hmm
  by_cases h30 : 30 < l.length
  · go_enter Try.func6, Try.ntmps6
    go_wp2_with fail
    refine (lineAwake_any _).mono ?_
    rintro e0 w1 ⟨rfl, hb⟩
    have HW := Lib.hid hb
    clear hb
    go_wp2
    go_ret
    exact ⟨rfl, HW.out⟩
  by_cases h31 : 30 < m.length
  · go_enter Try.func6, Try.ntmps6
    go_wp2_with fail
    refine (lineAwake_any _).mono ?_
    rintro e0 w1 ⟨rfl, hb⟩
    have HW := Lib.hid hb
    clear hb
    go_wp2
    go_ret
    exact ⟨rfl, HW.out⟩
  go_enter Try.func6, Try.ntmps6
  go_wp2_with fail
  refine (lineAwake_any _).mono ?_
  rintro e0 w1 ⟨rfl, hb⟩
  have HW := Lib.hid hb
  clear hb
  go_wp2_with fail
  refine (lNew_any _).mono ?_
  rintro e0 w2 ⟨rfl, hA, hb⟩
  have HA := Lib.hid hA
  have hx : w.heap.size ≤ w1.heap.size := HW.out.size
  have HW := Lib.hid (HW.out.trans (hb.mono HW.out.size))
  generalize w1.heap.size = x at *
  clear hb hA
  go_wp2
  go_loopw [6] (fun i wr => ∃ k : Nat, k ≤ l.length ∧ i = .int .i64 k ∧ ∃ (os : List St) (B : Option Addr) (d : Nat), LineAt wr x z8 os B d 0 ∧ os.length ≤ k ∧ okS os ∧ Below w.heap.size w wr) (fun i _ => l.length - (intOf i).toNat)
  case atStart => exact ⟨0, Nat.zero_le _, rfl, [], none, 0, HA.out, Nat.le_refl _, (fun s hs => by cases hs), HW.out⟩
  case round =>
    clear HA HW
    obtain ⟨k, hk, rfl, os, B, d, hA, hol, hv, hbw⟩ := hrel
    have HA2 := Lib.hid hA
    have HB := Lib.hid hbw
    clear hA hbw
    by_cases hlt : k < l.length
    · obtain ⟨ab, ao, rfl, hac⟩ := (HL.out.below HB.out).at_ hlt
      obtain ⟨_, hk1, hk2⟩ := hac k hlt
      have e0 : IntKind.i64.wrap ((k : Int) + 1) = (k : Int) + 1 := IntWalk.i64_in _ (by omega)
      clear hac
      generalize l[k] = zv at *
      obtain ⟨z0, z, v⟩ := zv
      simp only at hk1 hk2
      go_wp2_with fail
      apply wp_region_last 78 (Eqs _ :: Eqs _ :: Eqs _ :: Eqs _ :: Eqs _ :: Eqs _ :: Eqs _ :: Eqs _ :: Eqs _ :: Eqs _ :: Eqs _ :: []) rfl (by kernel_rfl) (by rfl) (stab_cons (stab_eq _) (stab_cons (stab_eq _) (stab_cons (stab_eq _) (stab_cons (stab_eq _) (stab_cons (stab_eq _) (stab_cons (stab_eq _) (stab_cons (stab_eq _) (stab_cons (stab_eq _) (stab_cons (stab_eq _) (stab_cons (stab_eq _) (stab_cons (stab_eq _) stab_nil))))))))))) (by kernel_rfl) (by kernel_rfl) (by kernel_rfl)
      case hstep =>
        simp only [List.dropLast_cons_cons, List.dropLast_singleton]
        refine StepsOK.cons ?_ ?_
        · -- 0: Go.Op.move (Go.Operand.tmp 5)
          intro a w1 hR1 hF hU hsz
          have e5 : a.eval (.tmp 5) = _ := hU 5 (by kernel_rfl)
          rw [if_pos (by rfl)]
          intro K hK
          clear hF hU hsz
          obtain ⟨q1, q2, q3⟩ := eval_rest a
          generalize hρ : a.eval = ρ
          rw [hρ] at q1 q2 q3 e5
          clear hρ
          have u1 := OpUp_value Try.prog K
          have u2 := OpUp_enter Try.prog K
          go_simp
          exact hK _ _ (Stood.refl _) rfl
        refine StepsOK.cons ?_ ?_
        · -- 1: Go.Op.move (Go.Operand.tmp 0)
          intro a w1 hR1 hF hU hsz
          have e0 : a.eval (.tmp 0) = _ := hU 0 (by kernel_rfl)
          rw [if_pos (by rfl)]
          intro K hK
          clear hF hU hsz
          obtain ⟨q1, q2, q3⟩ := eval_rest a
          generalize hρ : a.eval = ρ
          rw [hρ] at q1 q2 q3 e0
          clear hρ
          have u1 := OpUp_value Try.prog K
          have u2 := OpUp_enter Try.prog K
          go_simp
          exact hK _ _ (Stood.refl _) rfl
        refine StepsOK.cons ?_ ?_
        · -- 2: Go.Op.move (Go.Operand.tmp 6)
          intro a w1 hR1 hF hU hsz
          have e6 : a.eval (.tmp 6) = _ := hU 6 (by kernel_rfl)
          rw [if_pos (by rfl)]
          intro K hK
          clear hF hU hsz
          obtain ⟨q1, q2, q3⟩ := eval_rest a
          generalize hρ : a.eval = ρ
          rw [hρ] at q1 q2 q3 e6
          clear hρ
          have u1 := OpUp_value Try.prog K
          have u2 := OpUp_enter Try.prog K
          go_simp
          exact hK _ _ (Stood.refl _) rfl
        refine StepsOK.cons ?_ ?_
        · -- 3: Go.Op.indexAddr 33 (Go.Operand.tmp 27) (Go.Operand.tmp 28)
          intro a w1 hR1 hF hU hsz
          have e27 : a.eval (.tmp 27) = _ := hF 1 _ _ rfl rfl (by kernel_rfl)
          have e28 : a.eval (.tmp 28) = _ := hF 2 _ _ rfl rfl (by kernel_rfl)
          rw [if_pos (by rfl)]
          intro K hK
          clear hF hU hsz
          obtain ⟨q1, q2, q3⟩ := eval_rest a
          generalize hρ : a.eval = ρ
          rw [hρ] at q1 q2 q3 e27 e28
          clear hρ
          have u1 := OpUp_value Try.prog K
          have u2 := OpUp_enter Try.prog K
          go_simp
          exact hK _ _ (Stood.refl _) rfl
        refine StepsOK.cons ?_ ?_
        · -- 4: Go.Op.fieldAddr 37 (Go.Operand.tmp 29) 1
          intro a w1 hR1 hF hU hsz
          have e29 : a.eval (.tmp 29) = _ := hF 3 _ _ rfl rfl (by kernel_rfl)
          rw [if_pos (by rfl)]
          intro K hK
          clear hF hU hsz
          obtain ⟨q1, q2, q3⟩ := eval_rest a
          generalize hρ : a.eval = ρ
          rw [hρ] at q1 q2 q3 e29
          clear hρ
          have u1 := OpUp_value Try.prog K
          have u2 := OpUp_enter Try.prog K
          go_simp
          exact hK _ _ (Stood.refl _) rfl
        refine StepsOK.cons ?_ ?_
        · -- 5: Go.Op.load 3 (Go.Operand.tmp 30)
          intro a w1 hR1 hF hU hsz
          have e30 : a.eval (.tmp 30) = _ := hF 4 _ _ rfl rfl (by kernel_rfl)
          rw [if_pos (by rfl)]
          intro K hK
          clear hF hU hsz
          have hz0 := ((Stood.cur hR1).cell (p := ⟨ab, ao + k * 3 + 1, none⟩) (cell_lt hk1)).trans hk1
          obtain ⟨q1, q2, q3⟩ := eval_rest a
          generalize hρ : a.eval = ρ
          rw [hρ] at q1 q2 q3 e30
          clear hρ
          have u1 := OpUp_value Try.prog K
          have u2 := OpUp_enter Try.prog K
          go_simp
          exact hK _ _ (Stood.refl _) rfl
        refine StepsOK.cons ?_ ?_
        · -- 6: Go.Op.move (Go.Operand.tmp 0)
          intro a w1 hR1 hF hU hsz
          have e0 : a.eval (.tmp 0) = _ := hU 0 (by kernel_rfl)
          rw [if_pos (by rfl)]
          intro K hK
          clear hF hU hsz
          obtain ⟨q1, q2, q3⟩ := eval_rest a
          generalize hρ : a.eval = ρ
          rw [hρ] at q1 q2 q3 e0
          clear hρ
          have u1 := OpUp_value Try.prog K
          have u2 := OpUp_enter Try.prog K
          go_simp
          exact hK _ _ (Stood.refl _) rfl
        refine StepsOK.cons ?_ ?_
        · -- 7: Go.Op.move (Go.Operand.tmp 6)
          intro a w1 hR1 hF hU hsz
          have e6 : a.eval (.tmp 6) = _ := hU 6 (by kernel_rfl)
          rw [if_pos (by rfl)]
          intro K hK
          clear hF hU hsz
          obtain ⟨q1, q2, q3⟩ := eval_rest a
          generalize hρ : a.eval = ρ
          rw [hρ] at q1 q2 q3 e6
          clear hρ
          have u1 := OpUp_value Try.prog K
          have u2 := OpUp_enter Try.prog K
          go_simp
          exact hK _ _ (Stood.refl _) rfl
        refine StepsOK.cons ?_ ?_
        · -- 8: Go.Op.indexAddr 33 (Go.Operand.tmp 32) (Go.Operand.tmp 33)
          intro a w1 hR1 hF hU hsz
          have e32 : a.eval (.tmp 32) = _ := hF 6 _ _ rfl rfl (by kernel_rfl)
          have e33 : a.eval (.tmp 33) = _ := hF 7 _ _ rfl rfl (by kernel_rfl)
          rw [if_pos (by rfl)]
          intro K hK
          clear hF hU hsz
          obtain ⟨q1, q2, q3⟩ := eval_rest a
          generalize hρ : a.eval = ρ
          rw [hρ] at q1 q2 q3 e32 e33
          clear hρ
          have u1 := OpUp_value Try.prog K
          have u2 := OpUp_enter Try.prog K
          go_simp
          exact hK _ _ (Stood.refl _) rfl
        refine StepsOK.cons ?_ ?_
        · -- 9: Go.Op.fieldAddr 37 (Go.Operand.tmp 34) 2
          intro a w1 hR1 hF hU hsz
          have e34 : a.eval (.tmp 34) = _ := hF 8 _ _ rfl rfl (by kernel_rfl)
          rw [if_pos (by rfl)]
          intro K hK
          clear hF hU hsz
          obtain ⟨q1, q2, q3⟩ := eval_rest a
          generalize hρ : a.eval = ρ
          rw [hρ] at q1 q2 q3 e34
          clear hρ
          have u1 := OpUp_value Try.prog K
          have u2 := OpUp_enter Try.prog K
          go_simp
          exact hK _ _ (Stood.refl _) rfl
        refine StepsOK.cons ?_ ?_
        · -- 10: Go.Op.load 25 (Go.Operand.tmp 35)
          intro a w1 hR1 hF hU hsz
          have e35 : a.eval (.tmp 35) = _ := hF 9 _ _ rfl rfl (by kernel_rfl)
          rw [if_pos (by rfl)]
          intro K hK
          clear hF hU hsz
          have hz1 := ((Stood.cur hR1).cell (p := ⟨ab, ao + k * 3 + 2, none⟩) (cell_lt hk2)).trans hk2
          obtain ⟨q1, q2, q3⟩ := eval_rest a
          generalize hρ : a.eval = ρ
          rw [hρ] at q1 q2 q3 e35
          clear hρ
          have u1 := OpUp_value Try.prog K
          have u2 := OpUp_enter Try.prog K
          go_simp
          exact hK _ _ (Stood.refl _) rfl
        exact StepsOK.nil
      case hend =>
        intro vs0 w1 hR1 hH0
        obtain ⟨vs1, rfl, hH1⟩ := hH0.eq_
        obtain ⟨vs2, rfl, hH2⟩ := hH1.eq_
        obtain ⟨vs3, rfl, hH3⟩ := hH2.eq_
        obtain ⟨vs4, rfl, hH4⟩ := hH3.eq_
        obtain ⟨vs5, rfl, hH5⟩ := hH4.eq_
        obtain ⟨vs6, rfl, hH6⟩ := hH5.eq_
        obtain ⟨vs7, rfl, hH7⟩ := hH6.eq_
        obtain ⟨vs8, rfl, hH8⟩ := hH7.eq_
        obtain ⟨vs9, rfl, hH9⟩ := hH8.eq_
        obtain ⟨vs10, rfl, hH10⟩ := hH9.eq_
        obtain ⟨vs11, rfl, hH11⟩ := hH10.eq_
        obtain rfl := hH11.nil
        clear hH0 hH1 hH2 hH3 hH4 hH5 hH6 hH7 hH8 hH9 hH10 hH11
        simp only [List.dropLast_cons_cons, List.dropLast_singleton, putAll, Act.put, List.setIfInBounds_toArray, List.set_cons_zero, List.set_cons_succ]
        have HA1 := Lib.hid (HA2.out.below (Stood.cur hR1))
        have HB1 := Lib.hid (HB.out.trans ((Stood.cur hR1).mono HB.out.size))
        go_wp2_with fail
        refine (lStore_any x z8 os B d 0 z v w1 HA1.out (by omega)).mono ?_
        rintro e w2 ⟨rfl, ⟨B', d', hA', hnew⟩, hFr⟩
        have hbl := HA1.out.own.lt
        have HB2 := Lib.hid (HB1.out.trans (hFr.below hx (by have := HB1.out.size; omega) (fun q hq => by have := (hbl q hq).1; omega)))
        go_wp2
        go_roundw
        case rel => exact ⟨k + 1, by omega, by go_num, _, B', d', hA', okS_len hol z v, okS_push hv z v, HB2.out⟩
        case measure => simp [intOf]; omega
    · obtain rfl : k = l.length := by omega
      go_wp2_with fail
      refine (lFlush_any x z8 os B d 0 wr HA2.out).mono ?_
      rintro e0 w3 ⟨rfl, hA3, hF3⟩
      have hbl := HA2.out.own.lt
      have HB3 := Lib.hid (HB.out.trans (hF3.below hx (by have := HB.out.size; omega) (fun q hq => by have := (hbl q hq).1; omega)))
      clear HA2 HB hF3 hbl
      go_wp2_with fail
      refine (lFence_any x z8 os B d os.length w3 hA3 (Nat.le_refl _) (by omega) hv).mono ?_
      rintro e0 w4 ⟨rfl, ⟨B4, d4, hA4, hn4⟩, hF4⟩
      have HB4 := Lib.hid (HB3.out.trans (hF4.below hx (by have := HB3.out.size; omega) (fun q hq => by cases hq)))
      rw [List.drop_length] at hA4
      have hs8 : (doW z8 (os.take os.length)).length = 8 := by rw [doW_len]; rfl
      generalize doW z8 (os.take os.length) = s1 at *
      have HA4 := Lib.hid hA4
      clear hA3 HB3 hF4 hA4 hn4 hv hol
      go_wp2_with fail
      refine (lSure_any x s1 [] B4 d4 0 w4 HA4.out).mono ?_
      rintro e0 w5 ⟨⟨Q, qc, rfl, hoq⟩, hb5⟩
      have HK5 := Lib.hid (show KeepQ w5 x B4 Q s1 by
        obtain ⟨q, rfl, hq1, hq2⟩ := hoq.form (by omega)
        refine ⟨hs8, q, rfl, by have := HA4.out.lt; omega, fun e => ?_, fun k hk => hoq.cellAt k hk⟩
        have := (HA4.out.own.lt q e).2
        omega)
      have HA5 := Lib.hid (HA4.out.below hb5)
      have HB5 := Lib.hid (HB4.out.trans (hb5.mono HB4.out.size))
      clear hoq hb5 HA4 HB4
      go_wp2_with fail
      refine (lOpen_any x s1 [] B4 d4 0 w5 HA5.out).mono ?_
      rintro e0 w6 ⟨rfl, rfl⟩
      go_wp2
      go_loopw [8] (fun i wr => ∃ k : Nat, k ≤ m.length ∧ i = .int .i64 k ∧ ∃ (os : List St) (B : Option Addr) (d : Nat), LineAt wr x s1 os B d 0 ∧ os.length ≤ k ∧ okS os ∧ Below w.heap.size w wr ∧ KeepQ wr x B Q s1) (fun i _ => m.length - (intOf i).toNat)
      case atStart => exact ⟨0, Nat.zero_le _, rfl, [], B4, d4, HA5.out, Nat.le_refl _, (fun s hs => by cases hs), HB5.out, HK5.out⟩
      case round =>
        clear HA5 HB5 HK5
        obtain ⟨k, hk, rfl, os, B, d, hA, hol, hv, hbw, hkq⟩ := hrel
        have HA2 := Lib.hid hA
        have HB := Lib.hid hbw
        have HK0 := Lib.hid hkq
        clear hA hbw hkq
        by_cases hlt : k < m.length
        · obtain ⟨ab, ao, rfl, hac⟩ := (HM.out.below HB.out).at_ hlt
          obtain ⟨_, hk1, hk2⟩ := hac k hlt
          have e0 : IntKind.i64.wrap ((k : Int) + 1) = (k : Int) + 1 := IntWalk.i64_in _ (by omega)
          clear hac
          generalize m[k] = zv at *
          obtain ⟨z0, z, v⟩ := zv
          simp only at hk1 hk2
          go_wp2_with fail
          apply wp_region_last 78 (Eqs _ :: Eqs _ :: Eqs _ :: Eqs _ :: Eqs _ :: Eqs _ :: Eqs _ :: Eqs _ :: Eqs _ :: Eqs _ :: Eqs _ :: []) rfl (by kernel_rfl) (by rfl) (stab_cons (stab_eq _) (stab_cons (stab_eq _) (stab_cons (stab_eq _) (stab_cons (stab_eq _) (stab_cons (stab_eq _) (stab_cons (stab_eq _) (stab_cons (stab_eq _) (stab_cons (stab_eq _) (stab_cons (stab_eq _) (stab_cons (stab_eq _) (stab_cons (stab_eq _) stab_nil))))))))))) (by kernel_rfl) (by kernel_rfl) (by kernel_rfl)
          case hstep =>
            simp only [List.dropLast_cons_cons, List.dropLast_singleton]
            refine StepsOK.cons ?_ ?_
            · -- 0: Go.Op.move (Go.Operand.tmp 5)
              intro a w1 hR1 hF hU hsz
              have e5 : a.eval (.tmp 5) = _ := hU 5 (by kernel_rfl)
              rw [if_pos (by rfl)]
              intro K hK
              clear hF hU hsz
              obtain ⟨q1, q2, q3⟩ := eval_rest a
              generalize hρ : a.eval = ρ
              rw [hρ] at q1 q2 q3 e5
              clear hρ
              have u1 := OpUp_value Try.prog K
              have u2 := OpUp_enter Try.prog K
              go_simp
              exact hK _ _ (Stood.refl _) rfl
            refine StepsOK.cons ?_ ?_
            · -- 1: Go.Op.move (Go.Operand.tmp 1)
              intro a w1 hR1 hF hU hsz
              have e1 : a.eval (.tmp 1) = _ := hU 1 (by kernel_rfl)
              rw [if_pos (by rfl)]
              intro K hK
              clear hF hU hsz
              obtain ⟨q1, q2, q3⟩ := eval_rest a
              generalize hρ : a.eval = ρ
              rw [hρ] at q1 q2 q3 e1
              clear hρ
              have u1 := OpUp_value Try.prog K
              have u2 := OpUp_enter Try.prog K
              go_simp
              exact hK _ _ (Stood.refl _) rfl
            refine StepsOK.cons ?_ ?_
            · -- 2: Go.Op.move (Go.Operand.tmp 8)
              intro a w1 hR1 hF hU hsz
              have e8 : a.eval (.tmp 8) = _ := hU 8 (by kernel_rfl)
              rw [if_pos (by rfl)]
              intro K hK
              clear hF hU hsz
              obtain ⟨q1, q2, q3⟩ := eval_rest a
              generalize hρ : a.eval = ρ
              rw [hρ] at q1 q2 q3 e8
              clear hρ
              have u1 := OpUp_value Try.prog K
              have u2 := OpUp_enter Try.prog K
              go_simp
              exact hK _ _ (Stood.refl _) rfl
            refine StepsOK.cons ?_ ?_
            · -- 3: Go.Op.indexAddr 33 (Go.Operand.tmp 54) (Go.Operand.tmp 55)
              intro a w1 hR1 hF hU hsz
              have e54 : a.eval (.tmp 54) = _ := hF 1 _ _ rfl rfl (by kernel_rfl)
              have e55 : a.eval (.tmp 55) = _ := hF 2 _ _ rfl rfl (by kernel_rfl)
              rw [if_pos (by rfl)]
              intro K hK
              clear hF hU hsz
              obtain ⟨q1, q2, q3⟩ := eval_rest a
              generalize hρ : a.eval = ρ
              rw [hρ] at q1 q2 q3 e54 e55
              clear hρ
              have u1 := OpUp_value Try.prog K
              have u2 := OpUp_enter Try.prog K
              go_simp
              exact hK _ _ (Stood.refl _) rfl
            refine StepsOK.cons ?_ ?_
            · -- 4: Go.Op.fieldAddr 37 (Go.Operand.tmp 56) 1
              intro a w1 hR1 hF hU hsz
              have e56 : a.eval (.tmp 56) = _ := hF 3 _ _ rfl rfl (by kernel_rfl)
              rw [if_pos (by rfl)]
              intro K hK
              clear hF hU hsz
              obtain ⟨q1, q2, q3⟩ := eval_rest a
              generalize hρ : a.eval = ρ
              rw [hρ] at q1 q2 q3 e56
              clear hρ
              have u1 := OpUp_value Try.prog K
              have u2 := OpUp_enter Try.prog K
              go_simp
              exact hK _ _ (Stood.refl _) rfl
            refine StepsOK.cons ?_ ?_
            · -- 5: Go.Op.load 3 (Go.Operand.tmp 57)
              intro a w1 hR1 hF hU hsz
              have e57 : a.eval (.tmp 57) = _ := hF 4 _ _ rfl rfl (by kernel_rfl)
              rw [if_pos (by rfl)]
              intro K hK
              clear hF hU hsz
              have hz0 := ((Stood.cur hR1).cell (p := ⟨ab, ao + k * 3 + 1, none⟩) (cell_lt hk1)).trans hk1
              obtain ⟨q1, q2, q3⟩ := eval_rest a
              generalize hρ : a.eval = ρ
              rw [hρ] at q1 q2 q3 e57
              clear hρ
              have u1 := OpUp_value Try.prog K
              have u2 := OpUp_enter Try.prog K
              go_simp
              exact hK _ _ (Stood.refl _) rfl
            refine StepsOK.cons ?_ ?_
            · -- 6: Go.Op.move (Go.Operand.tmp 1)
              intro a w1 hR1 hF hU hsz
              have e1 : a.eval (.tmp 1) = _ := hU 1 (by kernel_rfl)
              rw [if_pos (by rfl)]
              intro K hK
              clear hF hU hsz
              obtain ⟨q1, q2, q3⟩ := eval_rest a
              generalize hρ : a.eval = ρ
              rw [hρ] at q1 q2 q3 e1
              clear hρ
              have u1 := OpUp_value Try.prog K
              have u2 := OpUp_enter Try.prog K
              go_simp
              exact hK _ _ (Stood.refl _) rfl
            refine StepsOK.cons ?_ ?_
            · -- 7: Go.Op.move (Go.Operand.tmp 8)
              intro a w1 hR1 hF hU hsz
              have e8 : a.eval (.tmp 8) = _ := hU 8 (by kernel_rfl)
              rw [if_pos (by rfl)]
              intro K hK
              clear hF hU hsz
              obtain ⟨q1, q2, q3⟩ := eval_rest a
              generalize hρ : a.eval = ρ
              rw [hρ] at q1 q2 q3 e8
              clear hρ
              have u1 := OpUp_value Try.prog K
              have u2 := OpUp_enter Try.prog K
              go_simp
              exact hK _ _ (Stood.refl _) rfl
            refine StepsOK.cons ?_ ?_
            · -- 8: Go.Op.indexAddr 33 (Go.Operand.tmp 59) (Go.Operand.tmp 60)
              intro a w1 hR1 hF hU hsz
              have e59 : a.eval (.tmp 59) = _ := hF 6 _ _ rfl rfl (by kernel_rfl)
              have e60 : a.eval (.tmp 60) = _ := hF 7 _ _ rfl rfl (by kernel_rfl)
              rw [if_pos (by rfl)]
              intro K hK
              clear hF hU hsz
              obtain ⟨q1, q2, q3⟩ := eval_rest a
              generalize hρ : a.eval = ρ
              rw [hρ] at q1 q2 q3 e59 e60
              clear hρ
              have u1 := OpUp_value Try.prog K
              have u2 := OpUp_enter Try.prog K
              go_simp
              exact hK _ _ (Stood.refl _) rfl
            refine StepsOK.cons ?_ ?_
            · -- 9: Go.Op.fieldAddr 37 (Go.Operand.tmp 61) 2
              intro a w1 hR1 hF hU hsz
              have e61 : a.eval (.tmp 61) = _ := hF 8 _ _ rfl rfl (by kernel_rfl)
              rw [if_pos (by rfl)]
              intro K hK
              clear hF hU hsz
              obtain ⟨q1, q2, q3⟩ := eval_rest a
              generalize hρ : a.eval = ρ
              rw [hρ] at q1 q2 q3 e61
              clear hρ
              have u1 := OpUp_value Try.prog K
              have u2 := OpUp_enter Try.prog K
              go_simp
              exact hK _ _ (Stood.refl _) rfl
            refine StepsOK.cons ?_ ?_
            · -- 10: Go.Op.load 25 (Go.Operand.tmp 62)
              intro a w1 hR1 hF hU hsz
              have e62 : a.eval (.tmp 62) = _ := hF 9 _ _ rfl rfl (by kernel_rfl)
              rw [if_pos (by rfl)]
              intro K hK
              clear hF hU hsz
              have hz1 := ((Stood.cur hR1).cell (p := ⟨ab, ao + k * 3 + 2, none⟩) (cell_lt hk2)).trans hk2
              obtain ⟨q1, q2, q3⟩ := eval_rest a
              generalize hρ : a.eval = ρ
              rw [hρ] at q1 q2 q3 e62
              clear hρ
              have u1 := OpUp_value Try.prog K
              have u2 := OpUp_enter Try.prog K
              go_simp
              exact hK _ _ (Stood.refl _) rfl
            exact StepsOK.nil
          case hend =>
            intro vs0 w1 hR1 hH0
            obtain ⟨vs1, rfl, hH1⟩ := hH0.eq_
            obtain ⟨vs2, rfl, hH2⟩ := hH1.eq_
            obtain ⟨vs3, rfl, hH3⟩ := hH2.eq_
            obtain ⟨vs4, rfl, hH4⟩ := hH3.eq_
            obtain ⟨vs5, rfl, hH5⟩ := hH4.eq_
            obtain ⟨vs6, rfl, hH6⟩ := hH5.eq_
            obtain ⟨vs7, rfl, hH7⟩ := hH6.eq_
            obtain ⟨vs8, rfl, hH8⟩ := hH7.eq_
            obtain ⟨vs9, rfl, hH9⟩ := hH8.eq_
            obtain ⟨vs10, rfl, hH10⟩ := hH9.eq_
            obtain ⟨vs11, rfl, hH11⟩ := hH10.eq_
            obtain rfl := hH11.nil
            clear hH0 hH1 hH2 hH3 hH4 hH5 hH6 hH7 hH8 hH9 hH10 hH11
            simp only [List.dropLast_cons_cons, List.dropLast_singleton, putAll, Act.put, List.setIfInBounds_toArray, List.set_cons_zero, List.set_cons_succ]
            have HA1 := Lib.hid (HA2.out.below (Stood.cur hR1))
            have HB1 := Lib.hid (HB.out.trans ((Stood.cur hR1).mono HB.out.size))
            have HK1 := Lib.hid (HK0.out.below (Stood.cur hR1))
            go_wp2_with fail
            refine (lStore_any x s1 os B d 0 z v w1 HA1.out (by omega)).mono ?_
            rintro e w2 ⟨rfl, ⟨B', d', hA', hnew⟩, hFr⟩
            have hbl := HA1.out.own.lt
            have HB2 := Lib.hid (HB1.out.trans (hFr.below hx (by have := HB1.out.size; omega) (fun q hq => by have := (hbl q hq).1; omega)))
            have HK := Lib.hid (keepQ_store HK1.out HA1.out hFr hnew)
            go_wp2
            go_roundw
            case rel => exact ⟨k + 1, by omega, by go_num, _, B', d', hA', okS_len hol z v, okS_push hv z v, HB2.out, HK.out⟩
            case measure => simp [intOf]; omega
        · obtain rfl : k = m.length := by omega
          go_wp2_with fail
          refine (lFence_any x s1 os B d 0 _ HA2.out (Nat.zero_le _) (by omega) hv).mono ?_
          rintro e0 w7 ⟨rfl, ⟨B7, d7, hA7, hn7⟩, hF7⟩
          have HB7 := Lib.hid (HB.out.trans (hF7.below hx (by have := HB.out.size; omega) (fun q hq => by cases hq)))
          have HK7 := Lib.hid (HK0.out.fr hF7 (.inl rfl) (fun q hq => .inr (hn7 q hq)))
          rw [List.drop_zero, List.take_zero] at hA7
          have HA7 := Lib.hid (show LineAt w7 x s1 os B7 d7 0 from hA7)
          clear hA7 hn7 hF7 HA2 HB HK0
          go_wp2_with fail
          refine (lFall_any x s1 os B7 d7 0 0 w7 HA7.out (by omega) hv).mono ?_
          rintro e0 w8 ⟨rfl, hA8, hF8⟩
          have HB8 := Lib.hid (HB7.out.trans (hF8.below hx (by have := HB7.out.size; omega) (fun q hq => by cases hq)))
          have HK8 := Lib.hid (HK7.out.fr (B' := none) hF8 (.inl rfl) (fun q hq => by cases hq))
          rw [show fallN 0 os.length = 0 by unfold fallN; omega, List.take_zero] at hA8
          have HA8 := Lib.hid (show LineAt w8 x s1 [] none 0 0 from hA8)
          clear hA8 hF8 HA7 HB7 HK7
          go_wp2_with fail
          refine (lSure_any x s1 [] none 0 0 w8 HA8.out).mono ?_
          rintro e0 w9 ⟨⟨R, rc, rfl, hor⟩, hb9⟩
          have HB9 := Lib.hid (HB8.out.trans (hb9.mono HB8.out.size))
          have HK9 := Lib.hid (HK8.out.below hb9)
          have KM := Lib.hid (show Calls Try.prog 25 #[.slice R 8 rc, .slice Q 8 qc] w9 fun e w' => e = .returned (.bool true) ∧ Drawn w9 w' by
            have h := same3_any s1 s1 R Q rc qc w9 hor.rd HK9.out.rd (by rw [hs8]; unfold maxLen; omega) (by rw [hs8]; unfold maxLen; omega)
            rw [hs8, beq_self_eq_true] at h
            exact h)
          clear hor hb9
          go_wp2_with fail
          refine KM.out.mono ?_
          rintro e0 wa ⟨rfl, hd⟩
          have HBa := Lib.hid (HB9.out.trans ((hd.below _).mono HB9.out.size))
          clear hd
          go_wp2
          go_ret
          exact ⟨rfl, HBa.out⟩
end Go.Proofs.Ytdadplpibdjjbaa
