/- The walk of the statement LineOrder. Condition: the slices can be read. -/
import Derived.Test.YtdadplpibdjjbaaLineSureW
namespace Go.Proofs.Ytdadplpibdjjbaa
open Go.RowKit
set_option linter.unusedVariables false
set_option linter.unusedSimpArgs false
theorem lineAt_fr {w w' : World} {x y d : Nat} {ss : List (BitVec 64)} {os : List St} {B : Option Addr} {fl : Int} {r : Option Nat} (h : LineAt w y ss os B d fl) (hF : Fr w w' x r) (h1 : y ≠ x) (h2 : r ≠ some y) (h3 : blk B ≠ some x) (h4 : ∀ q, blk B = some q → r ≠ some q) : LineAt w' y ss os B d fl := by
  refine ⟨(hF.block y h.lt h1 h2).trans h.blk, h.len, ?_⟩
  have ho := h.own
  refine ⟨ho.1, ?_⟩
  rcases ho.2 with hn | ⟨g, cap, cur, hv, hg, hh, rest⟩
  · exact .inl hn
  · have hB : blk B = some g := by
      injection hv with hA
      rw [hA]
      rfl
    refine .inr ⟨g, cap, cur, hv, hg, ?_, rest⟩
    rw [hF.block g (Array.getElem?_eq_some_iff.1 hh).1 (fun e => h3 (by rw [hB, e])) (h4 g hB)]
    exact hh
/-- Two lines that have no block in common. -/
structure Sep (x y : Nat) (B C : Option Addr) : Prop where
  ne : x ≠ y
  bx : blk B ≠ some y
  cy : blk C ≠ some x
  bc : ∀ q, blk B = some q → blk C ≠ some q
theorem Sep.swap {x y : Nat} {B C : Option Addr} (h : Sep x y B C) : Sep y x C B := ⟨h.ne.symm, h.cy, h.bx, fun q hq e => h.bc q e hq⟩
theorem Sep.kept {w w' : World} {x y d : Nat} {ss : List (BitVec 64)} {os : List St} {B C : Option Addr} {fl : Int} (h : Sep x y B C) (hA : LineAt w y ss os C d fl) {r : Option Nat} (hF : Fr w w' x r) (hr : r = none ∨ r = blk B) : LineAt w' y ss os C d fl := by
  refine lineAt_fr hA hF h.ne.symm ?_ h.cy ?_
  · rcases hr with rfl | rfl
    · exact fun e => by cases e
    · exact h.bx
  · intro q hq
    rcases hr with rfl | rfl
    · exact fun e => by cases e
    · exact fun e => h.bc q e hq
/-- The first line has other blocks of its own now, old ones or new ones. -/
theorem Sep.new {w : World} {x y d : Nat} {ss : List (BitVec 64)} {os : List St} {B B' C : Option Addr} {fl : Int} (h : Sep x y B C) (hA : LineAt w y ss os C d fl) (hB : ∀ k, blk B' = some k → blk B = some k ∨ w.heap.size ≤ k) : Sep x y B' C := by
  refine ⟨h.ne, fun e => ?_, h.cy, fun q hq e => ?_⟩
  · rcases hB y e with e2 | e2
    · exact h.bx e2
    · have := hA.lt; omega
  · rcases hB q hq with e2 | e2
    · exact h.bc q e2 e
    · have := (hA.own.lt q e).2; omega
theorem take_push (os : List St) (s : St) (n : Nat) : (os ++ [s]).take n = if os.length < n then os.take n ++ [s] else os.take n := by
  split
  · rename_i h
    rw [List.take_of_length_le (l := os) (by omega), List.take_of_length_le (by simp; omega)]
  · rw [List.take_append_of_le_length (by omega)]
theorem fall_take (z : Int) (os : List St) : os.take (fallN z os.length) = os.take z.toNat := by
  unfold fallN
  by_cases h : z.toNat ≤ os.length
  · rw [show (min (max z 0) (os.length : Int)).toNat = z.toNat by omega]
  · rw [List.take_of_length_le (i := z.toNat) (by omega), List.take_of_length_le (by omega)]
theorem okS_take {os : List St} (h : okS os) (n : Nat) : okS (os.take n) := fun s hs => h s (List.mem_of_mem_take hs)
set_option maxRecDepth 100000 in
set_option maxHeartbeats 4000000 in
theorem LineOrder_walk (l : List Ac) (L : Option Addr) (lc : Nat) (z9 : Int) (w : World) (hl : RdA w L l ∧ AcFit l) (hlc : l.length ≤ lc) (hlm : lc ≤ maxLen) (hz1 : -9223372036854775808 ≤ z9) (hz2 : z9 ≤ 9223372036854775807) :
    Calls Try.prog 5 #[.slice L l.length lc, .int .i64 z9] w fun e w' => e = .returned (.bool true) ∧ Below w.heap.size w w' := by
  have HL := Lib.hid hl.1
  clear hl
  unfold maxLen at hlm
  by_cases h30 : 40 < l.length
  · go_enter Try.func5, Try.ntmps5
    go_wp2_with fail
    refine (lineAwake_any _).mono ?_
    rintro e0 w1 ⟨rfl, hb⟩
    have HW := Lib.hid hb
    clear hb
    go_wp2
    go_ret
    exact ⟨rfl, HW.out⟩
  go_enter Try.func5, Try.ntmps5
  go_wp2_with fail
  refine (lineAwake_any _).mono ?_
  rintro e0 w1 ⟨rfl, hb⟩
  have HW := Lib.hid hb
  clear hb
  go_wp2_with fail
  refine (lNew_any _).mono ?_
  rintro e0 w2 ⟨rfl, hA, hb⟩
  have hx : w.heap.size ≤ w1.heap.size := HW.out.size
  have HW := Lib.hid (HW.out.trans (hb.mono HW.out.size))
  have hxl := hA.lt
  have HA0 := Lib.hid hA
  clear hb hA
  go_wp2_with fail
  refine (lNew_any _).mono ?_
  rintro e0 w3 ⟨rfl, hC, hb⟩
  have HA := Lib.hid (HA0.out.below hb)
  have HC := Lib.hid hC
  have hy : w.heap.size ≤ w2.heap.size := HW.out.size
  have HSP := Lib.hid (show Sep w1.heap.size w2.heap.size none none from ⟨by omega, fun e => (by cases e), fun e => (by cases e), fun q hq => (by cases hq)⟩)
  have HW := Lib.hid (HW.out.trans (hb.mono HW.out.size))
  clear hb hC HA0
  generalize w1.heap.size = x at *
  generalize w2.heap.size = y at *
  clear hxl
  go_wp2
  go_loopw [7, 8] (fun nn i wr => ∃ k : Nat, k ≤ l.length ∧ i = .int .i64 k ∧ ∃ (os : List St) (B : Option Addr) (d : Nat) (C : Option Addr) (e : Nat), nn = .int .i64 os.length ∧ LineAt wr x z8 os B d 0 ∧ LineAt wr y z8 (os.take z9.toNat) C e 0 ∧ Sep x y B C ∧ os.length ≤ k ∧ okS os ∧ Below w.heap.size w wr) (fun _ i _ => l.length - (intOf i).toNat)
  case atStart => exact ⟨0, Nat.zero_le _, rfl, [], none, 0, none, 0, rfl, HA.out, by rw [List.take_nil]; exact HC.out, HSP.out, Nat.le_refl _, (fun s hs => by cases hs), HW.out⟩
  case round =>
    clear HA HC HSP HW
    obtain ⟨k, hk, rfl, os, B, d, C, ce, rfl, hA, hC, hsp, hol, hv, hbw⟩ := hrel
    have HA2 := Lib.hid hA
    have HC2 := Lib.hid hC
    have HSP := Lib.hid hsp
    have HB := Lib.hid hbw
    clear hA hC hsp hbw
    by_cases hlt : k < l.length
    · obtain ⟨ab, ao, rfl, hac⟩ := (HL.out.below HB.out).at_ hlt
      obtain ⟨_, hk1, hk2⟩ := hac k hlt
      have HRA := Lib.hid (HL.out)
      have e0 : IntKind.i64.wrap ((k : Int) + 1) = (k : Int) + 1 := IntWalk.i64_in _ (by omega)
      have e1 : IntKind.i64.wrap ((os.length : Int) + 1) = (os.length : Int) + 1 := IntWalk.i64_in _ (by omega)
      clear hac
      have hklt : ab < wr.heap.size := cell_lt hk1
      generalize hzv : l[k] = zv at *
      obtain ⟨z0, z, v⟩ := zv
      simp only at hk1 hk2
      go_wp2_with fail
      apply wp_region_last 77 (Eqs _ :: Eqs _ :: Eqs _ :: Eqs _ :: Eqs _ :: Eqs _ :: Eqs _ :: Eqs _ :: Eqs _ :: Eqs _ :: Eqs _ :: []) rfl (by kernel_rfl) (by rfl) (stab_cons (stab_eq _) (stab_cons (stab_eq _) (stab_cons (stab_eq _) (stab_cons (stab_eq _) (stab_cons (stab_eq _) (stab_cons (stab_eq _) (stab_cons (stab_eq _) (stab_cons (stab_eq _) (stab_cons (stab_eq _) (stab_cons (stab_eq _) (stab_cons (stab_eq _) stab_nil))))))))))) (by kernel_rfl) (by kernel_rfl) (by kernel_rfl)
      case hstep =>
        simp only [List.dropLast_cons_cons, List.dropLast_singleton]
        refine StepsOK.cons ?_ ?_
        · -- 0: Go.Op.move (Go.Operand.tmp 5)
          intro a w1 hR1 hF hU hsz
          have e5 : a.eval (.tmp 5) = _ := hU 5 (by kernel_rfl)
          rw [if_pos (by rfl)]
          intro K hK
          clear hF hU hsz
          obtain ⟨q1, q2, q3⟩ := eval_rest a
          generalize hρ : a.eval = ρ
          rw [hρ] at q1 q2 q3 e5
          clear hρ
          have u1 := OpUp_value Try.prog K
          have u2 := OpUp_enter Try.prog K
          go_simp
          exact hK _ _ (Stood.refl _) rfl
        refine StepsOK.cons ?_ ?_
        · -- 1: Go.Op.move (Go.Operand.tmp 0)
          intro a w1 hR1 hF hU hsz
          have e0 : a.eval (.tmp 0) = _ := hU 0 (by kernel_rfl)
          rw [if_pos (by rfl)]
          intro K hK
          clear hF hU hsz
          obtain ⟨q1, q2, q3⟩ := eval_rest a
          generalize hρ : a.eval = ρ
          rw [hρ] at q1 q2 q3 e0
          clear hρ
          have u1 := OpUp_value Try.prog K
          have u2 := OpUp_enter Try.prog K
          go_simp
          exact hK _ _ (Stood.refl _) rfl
        refine StepsOK.cons ?_ ?_
        · -- 2: Go.Op.move (Go.Operand.tmp 8)
          intro a w1 hR1 hF hU hsz
          have e8 : a.eval (.tmp 8) = _ := hU 8 (by kernel_rfl)
          rw [if_pos (by rfl)]
          intro K hK
          clear hF hU hsz
          obtain ⟨q1, q2, q3⟩ := eval_rest a
          generalize hρ : a.eval = ρ
          rw [hρ] at q1 q2 q3 e8
          clear hρ
          have u1 := OpUp_value Try.prog K
          have u2 := OpUp_enter Try.prog K
          go_simp
          exact hK _ _ (Stood.refl _) rfl
        refine StepsOK.cons ?_ ?_
        · -- 3: Go.Op.indexAddr 33 (Go.Operand.tmp 23) (Go.Operand.tmp 24)
          intro a w1 hR1 hF hU hsz
          have e23 : a.eval (.tmp 23) = _ := hF 1 _ _ rfl rfl (by kernel_rfl)
          have e24 : a.eval (.tmp 24) = _ := hF 2 _ _ rfl rfl (by kernel_rfl)
          rw [if_pos (by rfl)]
          intro K hK
          clear hF hU hsz
          obtain ⟨q1, q2, q3⟩ := eval_rest a
          generalize hρ : a.eval = ρ
          rw [hρ] at q1 q2 q3 e23 e24
          clear hρ
          have u1 := OpUp_value Try.prog K
          have u2 := OpUp_enter Try.prog K
          go_simp
          exact hK _ _ (Stood.refl _) rfl
        refine StepsOK.cons ?_ ?_
        · -- 4: Go.Op.fieldAddr 37 (Go.Operand.tmp 25) 1
          intro a w1 hR1 hF hU hsz
          have e25 : a.eval (.tmp 25) = _ := hF 3 _ _ rfl rfl (by kernel_rfl)
          rw [if_pos (by rfl)]
          intro K hK
          clear hF hU hsz
          obtain ⟨q1, q2, q3⟩ := eval_rest a
          generalize hρ : a.eval = ρ
          rw [hρ] at q1 q2 q3 e25
          clear hρ
          have u1 := OpUp_value Try.prog K
          have u2 := OpUp_enter Try.prog K
          go_simp
          exact hK _ _ (Stood.refl _) rfl
        refine StepsOK.cons ?_ ?_
        · -- 5: Go.Op.load 3 (Go.Operand.tmp 26)
          intro a w1 hR1 hF hU hsz
          have e26 : a.eval (.tmp 26) = _ := hF 4 _ _ rfl rfl (by kernel_rfl)
          rw [if_pos (by rfl)]
          intro K hK
          clear hF hU hsz
          have hz0 := ((Stood.cur hR1).cell (p := ⟨ab, ao + k * 3 + 1, none⟩) (cell_lt hk1)).trans hk1
          obtain ⟨q1, q2, q3⟩ := eval_rest a
          generalize hρ : a.eval = ρ
          rw [hρ] at q1 q2 q3 e26
          clear hρ
          have u1 := OpUp_value Try.prog K
          have u2 := OpUp_enter Try.prog K
          go_simp
          exact hK _ _ (Stood.refl _) rfl
        refine StepsOK.cons ?_ ?_
        · -- 6: Go.Op.move (Go.Operand.tmp 0)
          intro a w1 hR1 hF hU hsz
          have e0 : a.eval (.tmp 0) = _ := hU 0 (by kernel_rfl)
          rw [if_pos (by rfl)]
          intro K hK
          clear hF hU hsz
          obtain ⟨q1, q2, q3⟩ := eval_rest a
          generalize hρ : a.eval = ρ
          rw [hρ] at q1 q2 q3 e0
          clear hρ
          have u1 := OpUp_value Try.prog K
          have u2 := OpUp_enter Try.prog K
          go_simp
          exact hK _ _ (Stood.refl _) rfl
        refine StepsOK.cons ?_ ?_
        · -- 7: Go.Op.move (Go.Operand.tmp 8)
          intro a w1 hR1 hF hU hsz
          have e8 : a.eval (.tmp 8) = _ := hU 8 (by kernel_rfl)
          rw [if_pos (by rfl)]
          intro K hK
          clear hF hU hsz
          obtain ⟨q1, q2, q3⟩ := eval_rest a
          generalize hρ : a.eval = ρ
          rw [hρ] at q1 q2 q3 e8
          clear hρ
          have u1 := OpUp_value Try.prog K
          have u2 := OpUp_enter Try.prog K
          go_simp
          exact hK _ _ (Stood.refl _) rfl
        refine StepsOK.cons ?_ ?_
        · -- 8: Go.Op.indexAddr 33 (Go.Operand.tmp 28) (Go.Operand.tmp 29)
          intro a w1 hR1 hF hU hsz
          have e28 : a.eval (.tmp 28) = _ := hF 6 _ _ rfl rfl (by kernel_rfl)
          have e29 : a.eval (.tmp 29) = _ := hF 7 _ _ rfl rfl (by kernel_rfl)
          rw [if_pos (by rfl)]
          intro K hK
          clear hF hU hsz
          obtain ⟨q1, q2, q3⟩ := eval_rest a
          generalize hρ : a.eval = ρ
          rw [hρ] at q1 q2 q3 e28 e29
          clear hρ
          have u1 := OpUp_value Try.prog K
          have u2 := OpUp_enter Try.prog K
          go_simp
          exact hK _ _ (Stood.refl _) rfl
        refine StepsOK.cons ?_ ?_
        · -- 9: Go.Op.fieldAddr 37 (Go.Operand.tmp 30) 2
          intro a w1 hR1 hF hU hsz
          have e30 : a.eval (.tmp 30) = _ := hF 8 _ _ rfl rfl (by kernel_rfl)
          rw [if_pos (by rfl)]
          intro K hK
          clear hF hU hsz
          obtain ⟨q1, q2, q3⟩ := eval_rest a
          generalize hρ : a.eval = ρ
          rw [hρ] at q1 q2 q3 e30
          clear hρ
          have u1 := OpUp_value Try.prog K
          have u2 := OpUp_enter Try.prog K
          go_simp
          exact hK _ _ (Stood.refl _) rfl
        refine StepsOK.cons ?_ ?_
        · -- 10: Go.Op.load 25 (Go.Operand.tmp 31)
          intro a w1 hR1 hF hU hsz
          have e31 : a.eval (.tmp 31) = _ := hF 9 _ _ rfl rfl (by kernel_rfl)
          rw [if_pos (by rfl)]
          intro K hK
          clear hF hU hsz
          have hz1 := ((Stood.cur hR1).cell (p := ⟨ab, ao + k * 3 + 2, none⟩) (cell_lt hk2)).trans hk2
          obtain ⟨q1, q2, q3⟩ := eval_rest a
          generalize hρ : a.eval = ρ
          rw [hρ] at q1 q2 q3 e31
          clear hρ
          have u1 := OpUp_value Try.prog K
          have u2 := OpUp_enter Try.prog K
          go_simp
          exact hK _ _ (Stood.refl _) rfl
        exact StepsOK.nil
      case hend =>
        intro vs0 w1 hR1 hH0
        obtain ⟨vs1, rfl, hH1⟩ := hH0.eq_
        obtain ⟨vs2, rfl, hH2⟩ := hH1.eq_
        obtain ⟨vs3, rfl, hH3⟩ := hH2.eq_
        obtain ⟨vs4, rfl, hH4⟩ := hH3.eq_
        obtain ⟨vs5, rfl, hH5⟩ := hH4.eq_
        obtain ⟨vs6, rfl, hH6⟩ := hH5.eq_
        obtain ⟨vs7, rfl, hH7⟩ := hH6.eq_
        obtain ⟨vs8, rfl, hH8⟩ := hH7.eq_
        obtain ⟨vs9, rfl, hH9⟩ := hH8.eq_
        obtain ⟨vs10, rfl, hH10⟩ := hH9.eq_
        obtain ⟨vs11, rfl, hH11⟩ := hH10.eq_
        obtain rfl := hH11.nil
        clear hH0 hH1 hH2 hH3 hH4 hH5 hH6 hH7 hH8 hH9 hH10 hH11
        simp only [List.dropLast_cons_cons, List.dropLast_singleton, putAll, Act.put, List.setIfInBounds_toArray, List.set_cons_zero, List.set_cons_succ]
        have HA1 := Lib.hid (HA2.out.below (Stood.cur hR1))
        have HC1 := Lib.hid (HC2.out.below (Stood.cur hR1))
        have HB1 := Lib.hid (HB.out.trans ((Stood.cur hR1).mono HB.out.size))
        have hka := ((Stood.cur hR1).cell (p := ⟨ab, ao + k * 3 + 1, none⟩) hklt).trans hk1
        have hkb := ((Stood.cur hR1).cell (p := ⟨ab, ao + k * 3 + 2, none⟩) hklt).trans hk2
        go_wp2_with fail
        refine (lStore_any x z8 os B d 0 z v w1 HA1.out (by omega)).mono ?_
        rintro e w2 ⟨rfl, ⟨B', d', hA', hnew⟩, hFr⟩
        have hbl := HA1.out.own.lt
        have HB2 := Lib.hid (HB1.out.trans (hFr.below hx (by have := HB1.out.size; omega) (fun q hq => by have := (hbl q hq).1; omega)))
        have HC2' := Lib.hid (HSP.out.kept HC1.out hFr (.inr rfl))
        have HSP2 := Lib.hid (HSP.out.new HC1.out hnew)
        have HV := Lib.hid (okS_push hv z v)
        have hlb := (HL.out.below HB2.out).at_ (show k < l.length from hlt)
        clear hFr hbl hnew HA1 HC1 HB1 hka hkb hk1 hk2
        by_cases hz : 0 ≤ z ∧ z < 8
        · rw [decide_eq_true hz]
          rw [if_pos hz] at hA' HV
          have HA3 := Lib.hid hA'
          have HC3 := Lib.hid HC2'.out
          have HSP3 := Lib.hid HSP2.out
          have HB3 := Lib.hid HB2.out
          obtain ⟨ab2, ao2, hab, hac⟩ := hlb
          cases hab
          obtain ⟨_, hk1, hk2⟩ := hac k hlt
          rw [hzv] at hk1 hk2
          simp only at hk1 hk2
          clear hac hA' HC2' HSP2 HB2
          by_cases hn : (os.length : Int) < z9
          · go_wp2_with fail
            apply wp_region_last 77 (Eqs _ :: Eqs _ :: Eqs _ :: Eqs _ :: Eqs _ :: Eqs _ :: Eqs _ :: Eqs _ :: Eqs _ :: Eqs _ :: Eqs _ :: []) rfl (by kernel_rfl) (by rfl) (stab_cons (stab_eq _) (stab_cons (stab_eq _) (stab_cons (stab_eq _) (stab_cons (stab_eq _) (stab_cons (stab_eq _) (stab_cons (stab_eq _) (stab_cons (stab_eq _) (stab_cons (stab_eq _) (stab_cons (stab_eq _) (stab_cons (stab_eq _) (stab_cons (stab_eq _) stab_nil))))))))))) (by kernel_rfl) (by kernel_rfl) (by kernel_rfl)
            case hstep =>
              simp only [List.dropLast_cons_cons, List.dropLast_singleton]
              refine StepsOK.cons ?_ ?_
              · -- 0: Go.Op.move (Go.Operand.tmp 6)
                intro a w4 hR1 hF hU hsz
                have e6 : a.eval (.tmp 6) = _ := hU 6 (by kernel_rfl)
                rw [if_pos (by rfl)]
                intro K hK
                clear hF hU hsz
                obtain ⟨q1, q2, q3⟩ := eval_rest a
                generalize hρ : a.eval = ρ
                rw [hρ] at q1 q2 q3 e6
                clear hρ
                have u1 := OpUp_value Try.prog K
                have u2 := OpUp_enter Try.prog K
                go_simp
                exact hK _ _ (Stood.refl _) rfl
              refine StepsOK.cons ?_ ?_
              · -- 1: Go.Op.move (Go.Operand.tmp 0)
                intro a w4 hR1 hF hU hsz
                have e0 : a.eval (.tmp 0) = _ := hU 0 (by kernel_rfl)
                rw [if_pos (by rfl)]
                intro K hK
                clear hF hU hsz
                obtain ⟨q1, q2, q3⟩ := eval_rest a
                generalize hρ : a.eval = ρ
                rw [hρ] at q1 q2 q3 e0
                clear hρ
                have u1 := OpUp_value Try.prog K
                have u2 := OpUp_enter Try.prog K
                go_simp
                exact hK _ _ (Stood.refl _) rfl
              refine StepsOK.cons ?_ ?_
              · -- 2: Go.Op.move (Go.Operand.tmp 8)
                intro a w4 hR1 hF hU hsz
                have e8 : a.eval (.tmp 8) = _ := hU 8 (by kernel_rfl)
                rw [if_pos (by rfl)]
                intro K hK
                clear hF hU hsz
                obtain ⟨q1, q2, q3⟩ := eval_rest a
                generalize hρ : a.eval = ρ
                rw [hρ] at q1 q2 q3 e8
                clear hρ
                have u1 := OpUp_value Try.prog K
                have u2 := OpUp_enter Try.prog K
                go_simp
                exact hK _ _ (Stood.refl _) rfl
              refine StepsOK.cons ?_ ?_
              · -- 3: Go.Op.indexAddr 33 (Go.Operand.tmp 38) (Go.Operand.tmp 39)
                intro a w4 hR1 hF hU hsz
                have e38 : a.eval (.tmp 38) = _ := hF 1 _ _ rfl rfl (by kernel_rfl)
                have e39 : a.eval (.tmp 39) = _ := hF 2 _ _ rfl rfl (by kernel_rfl)
                rw [if_pos (by rfl)]
                intro K hK
                clear hF hU hsz
                obtain ⟨q1, q2, q3⟩ := eval_rest a
                generalize hρ : a.eval = ρ
                rw [hρ] at q1 q2 q3 e38 e39
                clear hρ
                have u1 := OpUp_value Try.prog K
                have u2 := OpUp_enter Try.prog K
                go_simp
                exact hK _ _ (Stood.refl _) rfl
              refine StepsOK.cons ?_ ?_
              · -- 4: Go.Op.fieldAddr 37 (Go.Operand.tmp 40) 1
                intro a w4 hR1 hF hU hsz
                have e40 : a.eval (.tmp 40) = _ := hF 3 _ _ rfl rfl (by kernel_rfl)
                rw [if_pos (by rfl)]
                intro K hK
                clear hF hU hsz
                obtain ⟨q1, q2, q3⟩ := eval_rest a
                generalize hρ : a.eval = ρ
                rw [hρ] at q1 q2 q3 e40
                clear hρ
                have u1 := OpUp_value Try.prog K
                have u2 := OpUp_enter Try.prog K
                go_simp
                exact hK _ _ (Stood.refl _) rfl
              refine StepsOK.cons ?_ ?_
              · -- 5: Go.Op.load 3 (Go.Operand.tmp 41)
                intro a w4 hR1 hF hU hsz
                have e41 : a.eval (.tmp 41) = _ := hF 4 _ _ rfl rfl (by kernel_rfl)
                rw [if_pos (by rfl)]
                intro K hK
                clear hF hU hsz
                have hz0 := ((Stood.cur hR1).cell (p := ⟨ab, ao + k * 3 + 1, none⟩) (cell_lt hk1)).trans hk1
                obtain ⟨q1, q2, q3⟩ := eval_rest a
                generalize hρ : a.eval = ρ
                rw [hρ] at q1 q2 q3 e41
                clear hρ
                have u1 := OpUp_value Try.prog K
                have u2 := OpUp_enter Try.prog K
                go_simp
                exact hK _ _ (Stood.refl _) rfl
              refine StepsOK.cons ?_ ?_
              · -- 6: Go.Op.move (Go.Operand.tmp 0)
                intro a w4 hR1 hF hU hsz
                have e0 : a.eval (.tmp 0) = _ := hU 0 (by kernel_rfl)
                rw [if_pos (by rfl)]
                intro K hK
                clear hF hU hsz
                obtain ⟨q1, q2, q3⟩ := eval_rest a
                generalize hρ : a.eval = ρ
                rw [hρ] at q1 q2 q3 e0
                clear hρ
                have u1 := OpUp_value Try.prog K
                have u2 := OpUp_enter Try.prog K
                go_simp
                exact hK _ _ (Stood.refl _) rfl
              refine StepsOK.cons ?_ ?_
              · -- 7: Go.Op.move (Go.Operand.tmp 8)
                intro a w4 hR1 hF hU hsz
                have e8 : a.eval (.tmp 8) = _ := hU 8 (by kernel_rfl)
                rw [if_pos (by rfl)]
                intro K hK
                clear hF hU hsz
                obtain ⟨q1, q2, q3⟩ := eval_rest a
                generalize hρ : a.eval = ρ
                rw [hρ] at q1 q2 q3 e8
                clear hρ
                have u1 := OpUp_value Try.prog K
                have u2 := OpUp_enter Try.prog K
                go_simp
                exact hK _ _ (Stood.refl _) rfl
              refine StepsOK.cons ?_ ?_
              · -- 8: Go.Op.indexAddr 33 (Go.Operand.tmp 43) (Go.Operand.tmp 44)
                intro a w4 hR1 hF hU hsz
                have e43 : a.eval (.tmp 43) = _ := hF 6 _ _ rfl rfl (by kernel_rfl)
                have e44 : a.eval (.tmp 44) = _ := hF 7 _ _ rfl rfl (by kernel_rfl)
                rw [if_pos (by rfl)]
                intro K hK
                clear hF hU hsz
                obtain ⟨q1, q2, q3⟩ := eval_rest a
                generalize hρ : a.eval = ρ
                rw [hρ] at q1 q2 q3 e43 e44
                clear hρ
                have u1 := OpUp_value Try.prog K
                have u2 := OpUp_enter Try.prog K
                go_simp
                exact hK _ _ (Stood.refl _) rfl
              refine StepsOK.cons ?_ ?_
              · -- 9: Go.Op.fieldAddr 37 (Go.Operand.tmp 45) 2
                intro a w4 hR1 hF hU hsz
                have e45 : a.eval (.tmp 45) = _ := hF 8 _ _ rfl rfl (by kernel_rfl)
                rw [if_pos (by rfl)]
                intro K hK
                clear hF hU hsz
                obtain ⟨q1, q2, q3⟩ := eval_rest a
                generalize hρ : a.eval = ρ
                rw [hρ] at q1 q2 q3 e45
                clear hρ
                have u1 := OpUp_value Try.prog K
                have u2 := OpUp_enter Try.prog K
                go_simp
                exact hK _ _ (Stood.refl _) rfl
              refine StepsOK.cons ?_ ?_
              · -- 10: Go.Op.load 25 (Go.Operand.tmp 46)
                intro a w4 hR1 hF hU hsz
                have e46 : a.eval (.tmp 46) = _ := hF 9 _ _ rfl rfl (by kernel_rfl)
                rw [if_pos (by rfl)]
                intro K hK
                clear hF hU hsz
                have hz1 := ((Stood.cur hR1).cell (p := ⟨ab, ao + k * 3 + 2, none⟩) (cell_lt hk2)).trans hk2
                obtain ⟨q1, q2, q3⟩ := eval_rest a
                generalize hρ : a.eval = ρ
                rw [hρ] at q1 q2 q3 e46
                clear hρ
                have u1 := OpUp_value Try.prog K
                have u2 := OpUp_enter Try.prog K
                go_simp
                exact hK _ _ (Stood.refl _) rfl
              exact StepsOK.nil
            case hend =>
              intro vs0 w4 hR1 hH0
              obtain ⟨vs1, rfl, hH1⟩ := hH0.eq_
              obtain ⟨vs2, rfl, hH2⟩ := hH1.eq_
              obtain ⟨vs3, rfl, hH3⟩ := hH2.eq_
              obtain ⟨vs4, rfl, hH4⟩ := hH3.eq_
              obtain ⟨vs5, rfl, hH5⟩ := hH4.eq_
              obtain ⟨vs6, rfl, hH6⟩ := hH5.eq_
              obtain ⟨vs7, rfl, hH7⟩ := hH6.eq_
              obtain ⟨vs8, rfl, hH8⟩ := hH7.eq_
              obtain ⟨vs9, rfl, hH9⟩ := hH8.eq_
              obtain ⟨vs10, rfl, hH10⟩ := hH9.eq_
              obtain ⟨vs11, rfl, hH11⟩ := hH10.eq_
              obtain rfl := hH11.nil
              clear hH0 hH1 hH2 hH3 hH4 hH5 hH6 hH7 hH8 hH9 hH10 hH11
              simp only [List.dropLast_cons_cons, List.dropLast_singleton, putAll, Act.put, List.setIfInBounds_toArray, List.set_cons_zero, List.set_cons_succ]
              have HA4 := Lib.hid (HA3.out.below (Stood.cur hR1))
              have HC4 := Lib.hid (HC3.out.below (Stood.cur hR1))
              have HB4 := Lib.hid (HB3.out.trans ((Stood.cur hR1).mono HB3.out.size))
              go_wp2_with fail
              refine (lStore_any y z8 (os.take z9.toNat) C ce 0 z v w4 HC4.out (by rw [List.length_take]; omega)).mono ?_
              rintro e w5 ⟨rfl, ⟨C', ce', hC', hnewC⟩, hFrC⟩
              have hblC := HC4.out.own.lt
              have HB5 := Lib.hid (HB4.out.trans (hFrC.below hy (by have := HB4.out.size; omega) (fun q hq => by have := (hblC q hq).1; omega)))
              have HA5 := Lib.hid (HSP3.out.swap.kept HA4.out hFrC (.inr rfl))
              have HSP5 := Lib.hid ((HSP3.out.swap.new HA4.out hnewC).swap)
              have HC5 := Lib.hid (show LineAt w5 y z8 ((os ++ [(z, v)]).take z9.toNat) C' ce' 0 by
                rw [take_push, if_pos (by omega)]
                rw [if_pos hz] at hC'
                exact hC')
              clear hC' hFrC hblC hnewC
              go_wp2
              go_roundw
              case rel => exact ⟨k + 1, by omega, by go_num, os ++ [(z, v)], B', d', C', ce', by rw [List.length_append]; go_num, HA5.out, HC5.out, HSP5.out, by rw [List.length_append]; simp; omega, HV.out, HB5.out⟩
              case measure => simp [intOf]; omega
          · have HC5 := Lib.hid (show LineAt w2 y z8 ((os ++ [(z, v)]).take z9.toNat) C ce 0 by
              rw [take_push, if_neg (by omega)]
              exact HC3.out)
            go_wp2
            go_roundw
            case rel => exact ⟨k + 1, by omega, by go_num, os ++ [(z, v)], B', d', C, ce, by rw [List.length_append]; go_num, HA3.out, HC5.out, HSP3.out, by rw [List.length_append]; simp; omega, HV.out, HB3.out⟩
            case measure => simp [intOf]; omega
        · rw [decide_eq_false hz]
          rw [if_neg hz] at hA' HV
          have HA3 := Lib.hid hA'
          clear hA' hlb
          go_wp2
          go_roundw
          case rel => exact ⟨k + 1, by omega, by go_num, os, B', d', C, ce, rfl, HA3.out, HC2'.out, HSP2.out, by omega, HV.out, HB2.out⟩
          case measure => simp [intOf]; omega
    · obtain rfl : k = l.length := by omega
      go_wp2_with fail
      refine (lOpen_any x z8 os B d 0 _ HA2.out).mono ?_
      rintro e0 w4 ⟨rfl, rfl⟩
      have hnn : ((os.length : Int) != (os.length : Int)) = false := by simp
      go_wp2_with fail
      refine (lFall_any x z8 os B d 0 z9 _ HA2.out (by omega) hv).mono ?_
      rintro e0 w5 ⟨rfl, hA5, hF5⟩
      have HC5 := Lib.hid (HSP.out.kept HC2.out hF5 (.inl rfl))
      have HB5 := Lib.hid (HB.out.trans (hF5.below hx (by have := HB.out.size; omega) (fun q hq => by cases hq)))
      rw [fall_take] at hA5
      have HA5 := Lib.hid hA5
      have HS5 := Lib.hid (show Sep x y none C from ⟨HSP.out.ne, fun e => (by cases e), HSP.out.cy, fun q hq => (by cases hq)⟩)
      clear hA5 hF5 HA2 HC2 HB HSP
      have hvt := okS_take hv z9.toNat
      have htl : (os.take z9.toNat).length ≤ 1000 := by rw [List.length_take]; omega
      generalize os.take z9.toNat = oy at *
      go_wp2_with fail
      refine (lFlush_any y z8 oy C ce 0 w5 HC5.out).mono ?_
      rintro e0 w6 ⟨rfl, hC6, hF6⟩
      have hbl := HC5.out.own.lt
      have HA6 := Lib.hid (HS5.out.swap.kept HA5.out hF6 (.inr rfl))
      have HB6 := Lib.hid (HB5.out.trans (hF6.below hy (by have := HB5.out.size; omega) (fun q hq => by have := (hbl q hq).1; omega)))
      clear HA5 HC5 HB5 hF6 hbl
      go_wp2_with fail
      refine (lFence_any y z8 oy C ce oy.length w6 hC6 (Nat.le_refl _) htl hvt).mono ?_
      rintro e0 w7 ⟨rfl, ⟨C7, ce7, hC7, hn7⟩, hF7⟩
      have HA7 := Lib.hid (HS5.out.swap.kept HA6.out hF7 (.inl rfl))
      have HB7 := Lib.hid (HB6.out.trans (hF7.below hy (by have := HB6.out.size; omega) (fun q hq => by cases hq)))
      rw [List.drop_length, List.take_length] at hC7
      have hs8 : (doW z8 oy).length = 8 := by rw [doW_len]; rfl
      have HC7 := Lib.hid hC7
      generalize doW z8 oy = s1 at *
      clear hC6 hC7 hn7 hF7 HA6 HB6
      go_wp2_with fail
      refine (lSure_any x s1 [] none 0 0 w7 HA7.out).mono ?_
      rintro e0 w8 ⟨⟨Q, qc, rfl, hoq⟩, hb8⟩
      have HQ := Lib.hid hoq.rd
      have HA8 := Lib.hid (HA7.out.below hb8)
      have HC8 := Lib.hid (HC7.out.below hb8)
      have HB8 := Lib.hid (HB7.out.trans (hb8.mono HB7.out.size))
      clear hoq hb8 HA7 HC7 HB7
      go_wp2_with fail
      refine (lSure_any y s1 [] C7 ce7 0 w8 HC8.out).mono ?_
      rintro e0 w9 ⟨⟨R, rc, rfl, hor⟩, hb9⟩
      have HQ9 := Lib.hid (HQ.out.below hb9)
      have HR9 := Lib.hid hor.rd
      have HA9 := Lib.hid (HA8.out.below hb9)
      have HC9 := Lib.hid (HC8.out.below hb9)
      have HB9 := Lib.hid (HB8.out.trans (hb9.mono HB8.out.size))
      have KM := Lib.hid (show Calls Try.prog 25 #[.slice Q 8 qc, .slice R 8 rc] w9 fun e w' => e = .returned (.bool true) ∧ Drawn w9 w' by
        have h := same3_any s1 s1 Q R qc rc w9 HQ9.out HR9.out (by rw [hs8]; unfold maxLen; omega) (by rw [hs8]; unfold maxLen; omega)
        rw [hs8, beq_self_eq_true] at h
        exact h)
      clear hor hb9 HA8 HC8 HB8
      go_wp2_with fail
      refine KM.out.mono ?_
      rintro e0 wa ⟨rfl, hd⟩
      have hbd := hd.below w9.heap.size
      have HAa := Lib.hid (HA9.out.below hbd)
      have HCa := Lib.hid (HC9.out.below hbd)
      have HBa := Lib.hid (HB9.out.trans ((hd.below _).mono HB9.out.size))
      clear hd hbd
      go_wp2_with fail
      refine (lOpen_any x s1 [] none 0 0 wa HAa.out).mono ?_
      rintro e0 wb ⟨rfl, rfl⟩
      go_wp2_with fail
      refine (lOpen_any y s1 [] C7 ce7 0 wa HCa.out).mono ?_
      rintro e0 wb ⟨rfl, rfl⟩
      go_wp2
      go_ret
      exact ⟨rfl, HBa.out⟩
end Go.Proofs.Ytdadplpibdjjbaa
