/- The walks of package line: settle, Fence, Fall. Conditions: those of LineAt; each open store stands in the line. -/
import Derived.Test.YtoifejinppjeeaaLineWalks
import Derived.Test.YtoifejinppjeeaaRegion2
namespace Go.Proofs.Ytoifejinppjeeaa
open Go.RowKit
set_option linter.unusedVariables false
set_option linter.unusedSimpArgs false
theorem RdW.take {w : World} {A : Option Addr} {ws : List St} (h : RdW w A ws) (n : Nat) : RdW w A (ws.take n) := by
  rcases h with h | ⟨b, off, hA, hc⟩
  · left; rw [h]; exact List.take_nil
  · exact .inr ⟨b, off, hA, fun k hk => by
      have hk2 : k < ws.length := by simp at hk; omega
      have := hc k hk2
      rw [List.getElem_take]
      exact this⟩
theorem RdW.dropMap {w : World} {A : Option Addr} {ws : List St} (h : RdW w A ws) (n : Nat) : RdW w (A.map (fun p => p.add (n * 2))) (ws.drop n) := by
  rcases h with h | ⟨b, off, rfl, hc⟩
  · left; rw [h]; exact List.drop_nil
  · refine .inr ⟨b, off + n * 2, by simp [Addr.add_lit], fun k hk => ?_⟩
    have hk2 : n + k < ws.length := by simp at hk; omega
    have := hc (n + k) hk2
    rw [List.getElem_drop]
    rw [show off + n * 2 + k * 2 = off + (n + k) * 2 by omega]
    exact this
set_option maxRecDepth 100000 in
set_option maxHeartbeats 4000000 in
theorem lSettle_any (x : Nat) (ss : List (BitVec 64)) (os : List St) (B : Option Addr) (d : Nat) (fl : Int) (n : Nat) (w : World) (h : LineAt w x ss os B d fl) (hn : n ≤ os.length) (hl : os.length ≤ 1000) (hv : ∀ s ∈ os, 0 ≤ s.1 ∧ s.1 < 8) :
    Calls Try.prog 102 #[.pointer (some ⟨x, 0, none⟩), .int .i64 (n : Int)] w fun e w' => e = .returned (.tuple #[]) ∧
      (∃ B' d', LineAt w' x (doW ss (os.take n)) (os.drop n) B' d' 0 ∧ ∀ k, blk B' = some k → w.heap.size ≤ k) ∧ Fr w w' x none := by
  have HA := Lib.hid h
  have HV := Lib.hid hv
  have hc8 := h.c8
  have hcap := h.own.cap
  have hcap2 := hcap.2
  unfold maxLen at hcap2
  clear h hv
  go_enter Try.func102, Try.ntmps102
  go_wp2
  go_loopw [13] (fun i wr => ∃ k : Nat, k ≤ n ∧ i = .int .i64 k ∧ LineAt wr x (doW ss (os.take k)) os B d fl ∧ Fr w wr x none) (fun i _ => n - (intOf i).toNat)
  case atStart => exact ⟨0, Nat.zero_le _, rfl, HA.out, ⟨rfl, rfl, rfl, Nat.le_refl _, fun _ _ _ _ => rfl⟩⟩
  case round =>
    clear hc8
    obtain ⟨k, hk, rfl, hA, hF⟩ := hrel
    have HA2 := Lib.hid hA
    have HFR := Lib.hid hF
    have hc8 := hA.c8
    have hf8 := hA.fz 8
    have hc9 := hA.c9
    have hf9 := hA.fz 9
    clear hA hF
    by_cases hlt : k < n
    · obtain ⟨lb, lo, rfl, hlc⟩ := HA2.out.own.rd.at_ (show k < os.length by omega)
      obtain ⟨hk1, hk2⟩ := hlc k (by omega)
      have hbd := HV.out (os[k]'(by omega)) (List.getElem_mem _)
      have HT := Lib.hid (doW_take ss os k (by omega))
      clear hlc
      generalize os[k]'(by omega) = zv at *
      obtain ⟨z, v⟩ := zv
      simp only at hbd hk1 hk2
      obtain ⟨m, rfl⟩ := Int.eq_ofNat_of_zero_le hbd.1
      have hm8 : m < 8 := by omega
      have hmi : (m : Int) < 8 := hbd.2
      have HT2 := Lib.hid (show doW ss (os.take (k + 1)) = (doW ss (os.take k)).set m v by
        rw [HT.out]
        unfold doOne
        rw [if_pos (by rw [HA2.out.len]; exact hbd), Int.toNat_natCast])
      have e0 : IntKind.i64.wrap ((k : Int) + 1) = (k : Int) + 1 := IntWalk.i64_in _ (by omega)
      have hbx0 := Lib.cell_of_heap (heap_alloc_new wr (.cells #[.int .i64 (m : Int), U v] 145)) 0
      have hbx1 := Lib.cell_of_heap (heap_alloc_new wr (.cells #[.int .i64 (m : Int), U v] 145)) 1
      have HA3 := Lib.hid (HA2.out.below ((Below.refl wr.heap.size wr).alloc (Nat.le_refl _) (.cells #[.int .i64 (m : Int), U v] 145)))
      clear hbd HT
      go_wp2_with fail
      apply wp_region_last 39 (Eqs _ :: Eqs _ :: Eqs _ :: Eqs _ :: Eqs _ :: Eqs _ :: Eqs _ :: Eqs _ :: []) rfl (by kernel_rfl) (by rfl) (stab_cons (stab_eq _) (stab_cons (stab_eq _) (stab_cons (stab_eq _) (stab_cons (stab_eq _) (stab_cons (stab_eq _) (stab_cons (stab_eq _) (stab_cons (stab_eq _) (stab_cons (stab_eq _) stab_nil)))))))) (by kernel_rfl) (by kernel_rfl) (by kernel_rfl)
      case hstep =>
        simp only [List.dropLast_cons_cons, List.dropLast_singleton]
        refine StepsOK.cons ?_ ?_
        · -- 0: Go.Op.move (Go.Operand.tmp 0)
          intro a w1 hR1 hF hU hsz
          have e0 : a.eval (.tmp 0) = _ := hU 0 (by kernel_rfl)
          rw [if_pos (by rfl)]
          intro K hK
          clear hF hU hsz
          obtain ⟨q1, q2, q3⟩ := eval_rest a
          generalize hρ : a.eval = ρ
          rw [hρ] at q1 q2 q3 e0
          clear hρ
          have u1 := OpUp_value Try.prog K
          have u2 := OpUp_enter Try.prog K
          go_simp
          exact hK _ _ (Stood.refl _) rfl
        refine StepsOK.cons ?_ ?_
        · -- 1: Go.Op.fieldAddr 86 (Go.Operand.tmp 5) 0
          intro a w1 hR1 hF hU hsz
          have e5 : a.eval (.tmp 5) = _ := hU 5 (by kernel_rfl)
          rw [if_pos (by rfl)]
          intro K hK
          clear hF hU hsz
          obtain ⟨q1, q2, q3⟩ := eval_rest a
          generalize hρ : a.eval = ρ
          rw [hρ] at q1 q2 q3 e5
          clear hρ
          have u1 := OpUp_value Try.prog K
          have u2 := OpUp_enter Try.prog K
          go_simp
          exact hK _ _ (Stood.refl _) rfl
        refine StepsOK.cons ?_ ?_
        · -- 2: Go.Op.load 3 (Go.Operand.tmp 18)
          intro a w1 hR1 hF hU hsz
          have e18 : a.eval (.tmp 18) = _ := hF 1 _ _ rfl rfl (by kernel_rfl)
          rw [if_pos (by rfl)]
          intro K hK
          clear hF hU hsz
          have hz0 := ((Stood.cur hR1).cell (p := ⟨wr.heap.size, 0, none⟩) (by simp)).trans hbx0
          obtain ⟨q1, q2, q3⟩ := eval_rest a
          generalize hρ : a.eval = ρ
          rw [hρ] at q1 q2 q3 e18
          clear hρ
          have u1 := OpUp_value Try.prog K
          have u2 := OpUp_enter Try.prog K
          go_simp
          exact hK _ _ (Stood.refl _) rfl
        refine StepsOK.cons ?_ ?_
        · -- 3: Go.Op.fieldAddr 86 (Go.Operand.tmp 5) 1
          intro a w1 hR1 hF hU hsz
          have e5 : a.eval (.tmp 5) = _ := hU 5 (by kernel_rfl)
          rw [if_pos (by rfl)]
          intro K hK
          clear hF hU hsz
          obtain ⟨q1, q2, q3⟩ := eval_rest a
          generalize hρ : a.eval = ρ
          rw [hρ] at q1 q2 q3 e5
          clear hρ
          have u1 := OpUp_value Try.prog K
          have u2 := OpUp_enter Try.prog K
          go_simp
          exact hK _ _ (Stood.refl _) rfl
        refine StepsOK.cons ?_ ?_
        · -- 4: Go.Op.load 25 (Go.Operand.tmp 20)
          intro a w1 hR1 hF hU hsz
          have e20 : a.eval (.tmp 20) = _ := hF 3 _ _ rfl rfl (by kernel_rfl)
          rw [if_pos (by rfl)]
          intro K hK
          clear hF hU hsz
          have hz1 := ((Stood.cur hR1).cell (p := ⟨wr.heap.size, 1, none⟩) (by simp)).trans hbx1
          obtain ⟨q1, q2, q3⟩ := eval_rest a
          generalize hρ : a.eval = ρ
          rw [hρ] at q1 q2 q3 e20
          clear hρ
          have u1 := OpUp_value Try.prog K
          have u2 := OpUp_enter Try.prog K
          go_simp
          exact hK _ _ (Stood.refl _) rfl
        refine StepsOK.cons ?_ ?_
        · -- 5: Go.Op.nilCheck (Go.Operand.tmp 17)
          intro a w1 hR1 hF hU hsz
          have e17 : a.eval (.tmp 17) = _ := hF 0 _ _ rfl rfl (by kernel_rfl)
          rw [if_pos (by rfl)]
          intro K hK
          clear hF hU hsz
          obtain ⟨q1, q2, q3⟩ := eval_rest a
          generalize hρ : a.eval = ρ
          rw [hρ] at q1 q2 q3 e17
          clear hρ
          have u1 := OpUp_value Try.prog K
          have u2 := OpUp_enter Try.prog K
          go_simp
          exact hK _ _ (Stood.refl _) rfl
        refine StepsOK.cons ?_ ?_
        · -- 6: Go.Op.fieldAddr 84 (Go.Operand.tmp 22) 0
          intro a w1 hR1 hF hU hsz
          have e22 : a.eval (.tmp 22) = _ := hF 5 _ _ rfl rfl (by kernel_rfl)
          rw [if_pos (by rfl)]
          intro K hK
          clear hF hU hsz
          obtain ⟨q1, q2, q3⟩ := eval_rest a
          generalize hρ : a.eval = ρ
          rw [hρ] at q1 q2 q3 e22
          clear hρ
          have u1 := OpUp_value Try.prog K
          have u2 := OpUp_enter Try.prog K
          go_simp
          exact hK _ _ (Stood.refl _) rfl
        refine StepsOK.cons ?_ ?_
        · -- 7: Go.Op.indexAddr 81 (Go.Operand.tmp 23) (Go.Operand.tmp 19)
          intro a w1 hR1 hF hU hsz
          have e23 : a.eval (.tmp 23) = _ := hF 6 _ _ rfl rfl (by kernel_rfl)
          have e19 : a.eval (.tmp 19) = _ := hF 2 _ _ rfl rfl (by kernel_rfl)
          rw [if_pos (by rfl)]
          intro K hK
          clear hF hU hsz
          obtain ⟨q1, q2, q3⟩ := eval_rest a
          generalize hρ : a.eval = ρ
          rw [hρ] at q1 q2 q3 e19 e23
          clear hρ
          have u1 := OpUp_value Try.prog K
          have u2 := OpUp_enter Try.prog K
          go_simp
          exact hK _ _ (Stood.refl _) rfl
        exact StepsOK.nil
      case hend =>
        intro vs0 w1 hR1 hH0
        obtain ⟨vs1, rfl, hH1⟩ := hH0.eq_
        obtain ⟨vs2, rfl, hH2⟩ := hH1.eq_
        obtain ⟨vs3, rfl, hH3⟩ := hH2.eq_
        obtain ⟨vs4, rfl, hH4⟩ := hH3.eq_
        obtain ⟨vs5, rfl, hH5⟩ := hH4.eq_
        obtain ⟨vs6, rfl, hH6⟩ := hH5.eq_
        obtain ⟨vs7, rfl, hH7⟩ := hH6.eq_
        obtain ⟨vs8, rfl, hH8⟩ := hH7.eq_
        obtain rfl := hH8.nil
        clear hH0 hH1 hH2 hH3 hH4 hH5 hH6 hH7 hH8
        simp only [List.dropLast_cons_cons, List.dropLast_singleton, putAll, Act.put, List.setIfInBounds_toArray, List.set_cons_zero, List.set_cons_succ]
        have HL1 := Lib.hid (HA3.out.below (Stood.cur hR1))
        have hcm := HL1.out.cs m (by rw [HL1.out.len]; omega)
        have hfm := HL1.out.fz m
        generalize (doW ss (os.take k))[m]'_ = old at hcm
        have HN := Lib.hid (HL1.out.setSure m (by omega) v)
        have HF1 := Lib.hid (show Fr w (w1.setCell ⟨x, m, none⟩ (U v)) x none from
          ⟨(Stood.cur hR1).os.trans HFR.out.os, (Stood.cur hR1).tape.trans HFR.out.tape, (Stood.cur hR1).output.trans HFR.out.output, by have h1 := (Stood.cur hR1).size; have h2 := HFR.out.size; simp [World.setCell] at *; omega, fun j hj h1 h2 => by
            rw [Below.heap_setCell _ _ _ _ (by simpa using h1), (Stood.cur hR1).block j (by have := HFR.out.size; simp; omega), Lib.alloc_old _ _ _ (by have := HFR.out.size; omega), HFR.out.block j hj h1 h2]⟩)
        clear HL1
        go_wp2
        go_roundw
        case rel => exact ⟨k + 1, by omega, by go_num, by rw [HT2.out]; exact HN.out, HF1.out⟩
        case measure => simp [intOf]; omega
    · obtain rfl : k = n := by omega
      by_cases hdk : d = k
      · have hlen : os.length = k := by omega
        have hrd : RdW wr B (os.drop k) := .inl (by rw [List.drop_eq_nil_iff]; omega)
        clear hlen
        go_wp2_with (first | go_skip | (at_builtin; refine stop_ ?_))
        refine appS (.const (.slice none 0 0)) (.tmp 32) rfl rfl (x + 1) none [] 0 0 rfl rfl (OwnS.nil_ _ _) _ (os.drop k) _ _ rfl List.length_drop.symm hrd (by simp; omega) (by have := HA2.out.lt; omega) ?_
        intro B2 us d2 w2 hus hown2 hg2 hnew
        obtain rfl : us = os.drop k := by simpa using hus
        have hb2 := (hg2.block x HA2.out.lt (fun e => by cases e)).trans HA2.out.blk
        have hx8 : w2.cell? ⟨x, 8, none⟩ = some (.slice B os.length d) := by
          have e := Lib.cell_of_heap hb2 8
          rw [e]
          simp [HA2.out.len]
        have hz8 : w2.frozen? ⟨x, 8, none⟩ = false := Lib.frozen_of_heap hb2 8
        have HN := Lib.hid (show LineAt (w2.setCell ⟨x, 8, none⟩ (.slice B2 (os.length - k) d2)) x (doW ss (os.take k)) (os.drop k) B2 d2 fl by
          have h := LineAt.setOpen hb2 HA2.out.len hown2
          rw [List.length_drop] at h
          exact h)
        have hx9 := HN.out.c9
        have hz9 := HN.out.fz 9
        have HN2 := Lib.hid (HN.out.setFl 0)
        have HFR2 := Lib.hid (show Fr w ((w2.setCell ⟨x, 8, none⟩ (.slice B2 (os.length - k) d2)).setCell ⟨x, 9, none⟩ (.int .i64 0)) x none from
          ⟨hg2.os.trans HFR.out.os, hg2.tape.trans HFR.out.tape, hg2.output.trans HFR.out.output, by have h1 := hg2.size; have h2 := HFR.out.size; simp [World.setCell] at *; omega, fun j hj h1 h2 => by
            rw [Below.heap_setCell _ _ _ _ (by simpa using h1), Below.heap_setCell _ _ _ _ (by simpa using h1), hg2.block j (by have := HFR.out.size; omega) (fun e => by cases e), HFR.out.block j hj h1 h2]⟩)
        have HNEW := Lib.hid (show ∀ q, blk B2 = some q → w.heap.size ≤ q from fun q hq => by
          rcases hnew with e | e
          · rw [hq] at e; cases e
          · rw [hq] at e; cases e; exact HFR.out.size)
        clear hrd hus hown2 hg2 hnew hb2 HN
        unfold Stop
        go_wp2
        go_end0
        exact ⟨rfl, ⟨B2, d2, HN2.out, HNEW.out⟩, HFR2.out⟩
      have hrd := HA2.out.own.rd.dropMap k
      go_wp2_with (first | go_skip | (at_builtin; refine stop_ ?_))
      refine appS (.const (.slice none 0 0)) (.tmp 32) rfl rfl (x + 1) none [] 0 0 rfl rfl (OwnS.nil_ _ _) _ (os.drop k) _ _ rfl List.length_drop.symm hrd (by simp; omega) (by have := HA2.out.lt; omega) ?_
      intro B2 us d2 w2 hus hown2 hg2 hnew
      obtain rfl : us = os.drop k := by simpa using hus
      have hb2 := (hg2.block x HA2.out.lt (fun e => by cases e)).trans HA2.out.blk
      have hx8 : w2.cell? ⟨x, 8, none⟩ = some (.slice B os.length d) := by
        have e := Lib.cell_of_heap hb2 8
        rw [e]
        simp [HA2.out.len]
      have hz8 : w2.frozen? ⟨x, 8, none⟩ = false := Lib.frozen_of_heap hb2 8
      have HN := Lib.hid (show LineAt (w2.setCell ⟨x, 8, none⟩ (.slice B2 (os.length - k) d2)) x (doW ss (os.take k)) (os.drop k) B2 d2 fl by
        have h := LineAt.setOpen hb2 HA2.out.len hown2
        rw [List.length_drop] at h
        exact h)
      have hx9 := HN.out.c9
      have hz9 := HN.out.fz 9
      have HN2 := Lib.hid (HN.out.setFl 0)
      have HFR2 := Lib.hid (show Fr w ((w2.setCell ⟨x, 8, none⟩ (.slice B2 (os.length - k) d2)).setCell ⟨x, 9, none⟩ (.int .i64 0)) x none from
        ⟨hg2.os.trans HFR.out.os, hg2.tape.trans HFR.out.tape, hg2.output.trans HFR.out.output, by have h1 := hg2.size; have h2 := HFR.out.size; simp [World.setCell] at *; omega, fun j hj h1 h2 => by
          rw [Below.heap_setCell _ _ _ _ (by simpa using h1), Below.heap_setCell _ _ _ _ (by simpa using h1), hg2.block j (by have := HFR.out.size; omega) (fun e => by cases e), HFR.out.block j hj h1 h2]⟩)
      have HNEW := Lib.hid (show ∀ q, blk B2 = some q → w.heap.size ≤ q from fun q hq => by
        rcases hnew with e | e
        · rw [hq] at e; cases e
        · rw [hq] at e; cases e; exact HFR.out.size)
      clear hrd hus hown2 hg2 hnew hb2 HN
      unfold Stop
      go_wp2
      go_end0
      exact ⟨rfl, ⟨B2, d2, HN2.out, HNEW.out⟩, HFR2.out⟩
theorem lFence_any (x : Nat) (ss : List (BitVec 64)) (os : List St) (B : Option Addr) (d : Nat) (n : Nat) (w : World) (h : LineAt w x ss os B d (n : Int)) (hn : n ≤ os.length) (hl : os.length ≤ 1000) (hv : ∀ s ∈ os, 0 ≤ s.1 ∧ s.1 < 8) :
    Calls Try.prog 78 #[.pointer (some ⟨x, 0, none⟩)] w fun e w' => e = .returned (.tuple #[]) ∧
      (∃ B' d', LineAt w' x (doW ss (os.take n)) (os.drop n) B' d' 0 ∧ ∀ k, blk B' = some k → w.heap.size ≤ k) ∧ Fr w w' x none := by
  have HS := Lib.hid (lSettle_any x ss os B d n n w h hn hl hv)
  have hc9 := h.c9
  clear h hv
  go_enter Try.func78, Try.ntmps78
  go_wp2_with fail
  refine HS.out.mono ?_
  rintro e w2 ⟨rfl, h1, h2⟩
  go_wp2
  go_end0
  exact ⟨rfl, h1, h2⟩
/-- How many a fall keeps. -/
def fallN (z : Int) (m : Nat) : Nat := (min (max z 0) (m : Int)).toNat
theorem lFall_any (x : Nat) (ss : List (BitVec 64)) (os : List St) (B : Option Addr) (d : Nat) (fl z : Int) (w : World) (h : LineAt w x ss os B d fl) (hl : os.length ≤ 1000) (hv : ∀ s ∈ os, 0 ≤ s.1 ∧ s.1 < 8) :
    Calls Try.prog 81 #[.pointer (some ⟨x, 0, none⟩), .int .i64 z] w fun e w' => e = .returned (.tuple #[]) ∧ LineAt w' x (doW ss (os.take (fallN z os.length))) [] none 0 0 ∧ Fr w w' x none := by
  have hfn : fallN z os.length ≤ os.length := by unfold fallN; omega
  have HS := Lib.hid (lSettle_any x ss os B d fl (fallN z os.length) w h hfn hl hv)
  have hc8 := h.c8
  clear h hv
  have key : ∀ n : Nat, fallN z os.length = n → (z < 0 ∧ n = 0 ∨ 0 ≤ z ∧ z ≤ os.length ∧ (n : Int) = z ∨ (os.length : Int) < z ∧ n = os.length) := fun n e => by unfold fallN at e; omega
  generalize fallN z os.length = n at *
  have hk := key n rfl
  clear key
  rcases hk with ⟨h1, rfl⟩ | ⟨h1, h2, rfl⟩ | ⟨h1, rfl⟩
  · have hz0 : ¬ 0 ≤ z := by omega
    have hmn : (0 : Int) ≤ (os.length : Int) := by omega
    go_enter Try.func81, Try.ntmps81
    go_wp2_with fail
    refine HS.out.mono ?_
    rintro e w2 ⟨rfl, ⟨B2, d2, hA, _⟩, hF⟩
    have hx8 := hA.c8
    have hz8 := hA.fz 8
    have HN := Lib.hid (LineAt.setOpen hA.blk hA.len (OwnS.nil_ w2 (x + 1)))
    have HF2 := Lib.hid (show Fr w (w2.setCell ⟨x, 8, none⟩ (.slice none 0 0)) x none from
      ⟨hF.os, hF.tape, hF.output, by have := hF.size; simp [World.setCell] at *; omega, fun j hj g1 g2 => by rw [Below.heap_setCell _ _ _ _ (by simpa using g1), hF.block j hj g1 g2]⟩)
    clear hA hF
    go_wp2
    go_end0
    exact ⟨rfl, HN.out, HF2.out⟩
  · have hz0 : ¬ ((n : Int)) < 0 := by omega
    go_enter Try.func81, Try.ntmps81
    go_wp2_with fail
    refine HS.out.mono ?_
    rintro e w2 ⟨rfl, ⟨B2, d2, hA, _⟩, hF⟩
    have hx8 := hA.c8
    have hz8 := hA.fz 8
    have HN := Lib.hid (LineAt.setOpen hA.blk hA.len (OwnS.nil_ w2 (x + 1)))
    have HF2 := Lib.hid (show Fr w (w2.setCell ⟨x, 8, none⟩ (.slice none 0 0)) x none from
      ⟨hF.os, hF.tape, hF.output, by have := hF.size; simp [World.setCell] at *; omega, fun j hj g1 g2 => by rw [Below.heap_setCell _ _ _ _ (by simpa using g1), hF.block j hj g1 g2]⟩)
    clear hA hF
    go_wp2
    go_end0
    exact ⟨rfl, HN.out, HF2.out⟩
  · have hz0 : ¬ z < 0 := by omega
    have hz1 : ¬ z ≤ (os.length : Int) := by omega
    have hz2 : 0 ≤ z := by omega
    go_enter Try.func81, Try.ntmps81
    go_wp2_with fail
    refine HS.out.mono ?_
    rintro e w2 ⟨rfl, ⟨B2, d2, hA, _⟩, hF⟩
    have hx8 := hA.c8
    have hz8 := hA.fz 8
    have HN := Lib.hid (LineAt.setOpen hA.blk hA.len (OwnS.nil_ w2 (x + 1)))
    have HF2 := Lib.hid (show Fr w (w2.setCell ⟨x, 8, none⟩ (.slice none 0 0)) x none from
      ⟨hF.os, hF.tape, hF.output, by have := hF.size; simp [World.setCell] at *; omega, fun j hj g1 g2 => by rw [Below.heap_setCell _ _ _ _ (by simpa using g1), hF.block j hj g1 g2]⟩)
    clear hA hF
    go_wp2
    go_end0
    exact ⟨rfl, HN.out, HF2.out⟩
end Go.Proofs.Ytoifejinppjeeaa
