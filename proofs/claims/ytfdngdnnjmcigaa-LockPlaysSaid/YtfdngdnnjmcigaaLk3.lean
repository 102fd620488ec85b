/- The walk of (*Table).may and of May. Conditions: the table stands; the slices can be read. -/
import Derived.Test.YtfdngdnnjmcigaaLk2
namespace Go.Proofs.Ytfdngdnnjmcigaa
open Go.RowKit Go.Maps
set_option linter.unusedVariables false
set_option linter.unusedSimpArgs false
theorem mayV_arg {T : Int → Sl} {who : Int} {ls : List Wt} (h : (T who).2.1 ≠ [] ∨ ls = [] ∨ risesB ls = false) : mayV T who ls = 1 := if_pos h
theorem mayV_busy {T : Int → Sl} {who : Int} {ls : List Wt} (h : ¬ ((T who).2.1 ≠ [] ∨ ls = [] ∨ risesB ls = false)) (hc : Clash T who ls) : mayV T who ls = 15 := by unfold mayV; rw [if_neg h, if_pos hc]
theorem mayV_ok {T : Int → Sl} {who : Int} {ls : List Wt} (h : ¬ ((T who).2.1 ≠ [] ∨ ls = [] ∨ risesB ls = false)) (hc : ¬ Clash T who ls) : mayV T who ls = 0 := by unfold mayV; rw [if_neg h, if_neg hc]
theorem lits_self (z : Int) : Lit.sameKey (.int .i64 z) (.int .i64 z) = true := WideAt.sameKey_self trivial
theorem lits_ne {z y : Int} (h : z ≠ y) : Lit.sameKey (.int .i64 z) (.int .i64 y) = false := sameKey_ne (fun e => h (by injection e))
theorem atKey_not_has {D : DataW Value} {k : Lit} {z : DataW Value} (h : Maps.has D k = false) : D.atKey k z = z := by
  cases D <;> try rfl
  rename_i es
  rw [has_eq] at h
  have h2 : es.find? (fun p => p.1.sameKey k) = none := by
    rw [List.find?_eq_none]
    intro p hp e
    rw [List.any_eq_false] at h
    exact h p hp e
  unfold DataW.atKey
  simp only [h2]
/-- What the loop over the map knows: no want of those that it has seen is against those that are asked for. -/
def Seen (T : Int → Sl) (who : Int) (ls : List Wt) (D : DataW Value) (left : Lit → Bool) : Prop :=
  ∀ z, In64 z → Maps.has D (.int .i64 z) = true → left (.int .i64 z) = false → z ≠ who → ∀ h ∈ (T z).2.1, ∀ x ∈ ls, apartB x h = true
theorem Seen.start (T : Int → Sl) (who : Int) (ls : List Wt) (D : DataW Value) : Seen T who ls D (Maps.has D) := fun z _ h1 h2 => by rw [h1] at h2; cases h2
theorem Seen.all {T : Int → Sl} {who : Int} {ls : List Wt} {D : DataW Value} {left : Lit → Bool} (h : Seen T who ls D left) (hl : ∀ kl, left kl = false) (hD : ∀ z, In64 z → D.atKey (.int .i64 z) (.held (.slice none 0 0)) = .held (slV (T z))) : ¬ Clash T who ls := by
  rintro ⟨z, hz, hne, y, hy, x, hx, ha⟩
  cases hh : Maps.has D (.int .i64 z) with
  | true => rw [h z hz hh (hl _) hne y hy x hx] at ha; cases ha
  | false =>
    have e := hD z hz
    rw [atKey_not_has hh] at e
    unfold slV at e
    injection e with e
    injection e with e1 e2 e3
    have : (T z).2.1 = [] := List.eq_nil_of_length_eq_zero (by omega)
    rw [this] at hy
    cases hy
theorem Seen.step {T : Int → Sl} {who : Int} {ls : List Wt} {D : DataW Value} {left : Lit → Bool} (h : Seen T who ls D left) {y : Int} (hy : y ≠ who → ∀ h ∈ (T y).2.1, ∀ x ∈ ls, apartB x h = true) : Seen T who ls D (fun z => left z && !z.sameKey (.int .i64 y)) := fun z hz hh hl hne => by
  by_cases e : z = y
  · subst e; exact hy hne
  · have hl : (left (.int .i64 z) && !Lit.sameKey (.int .i64 z) (.int .i64 y)) = false := hl
    rw [lits_ne e] at hl
    exact h z hz hh (by simpa using hl) hne
set_option maxRecDepth 100000 in
set_option maxHeartbeats 8000000 in
theorem may_any (T : Int → Sl) (who : Int) (ls : List Wt) (L : Option Addr) (lc : Nat) (w : World) (x b n : Nat) (h : LkAt w x b n T) (hw : In64 who) (hl : RdL w L ls) (hn : ls.length ≤ 1000000) :
    Calls Try.prog 13 #[.pointer (some ⟨x, 0, none⟩), .int .i64 who, .slice L ls.length lc] w fun e w' => e = .returned (.int .i64 (mayV T who ls)) ∧ Below w.heap.size w w' := by
  obtain ⟨A0, ws0, c0, hs⟩ : ∃ A0 ws0 c0, T who = (A0, ws0, c0) := ⟨_, _, _, rfl⟩
  have hbox := Lib.cell_of_heap h.box 0
  have hlk : (Instr.lookup 41 (.map (some b)) (.int .i64 who) false).run Try.prog w = .ok (.slice A0 ws0.length c0) w := by
    obtain ⟨D, ho, hd⟩ := h.map
    have e := own_look hw ho (hd who hw)
    rw [hs] at e
    exact e
  have HS := Lib.hid (show (T who).2.1 = ws0 by rw [hs])
  have HT := Lib.hid h
  have HL := Lib.hid hl
  have HN := Lib.hid hn
  have HW := Lib.hid hw
  clear h hl hn hs hw
  by_cases c1 : 0 < ws0.length
  · have f1 : decide ((0 : Int) < (ws0.length : Int)) = true := decide_eq_true (by omega)
    have f1' : decide (0 < ws0.length) = true := decide_eq_true c1
    have HV := Lib.hid (show mayV T who ls = 1 from mayV_arg (.inl (by rw [HS.out]; exact List.length_pos_iff.1 c1)))
    clear c1
    go_enter Try.func13, Try.ntmps13
    go_wp2
    go_ret
    exact ⟨ret_int HV.out.symm, Below.refl _ _⟩
  have f1 : decide ((0 : Int) < (ws0.length : Int)) = false := decide_eq_false (by omega)
  have f1' : decide (0 < ws0.length) = false := decide_eq_false c1
  have HS0 := Lib.hid (show (T who).2.1 = [] by rw [HS.out]; exact List.eq_nil_of_length_eq_zero (by omega))
  clear c1
  by_cases c2 : ls.length = 0
  · have f2 : ((ls.length : Int) == 0) = true := by rw [beq_iff_eq]; omega
    have HV := Lib.hid (show mayV T who ls = 1 from mayV_arg (.inr (.inl (List.eq_nil_of_length_eq_zero c2))))
    clear c2
    go_enter Try.func13, Try.ntmps13
    go_wp2
    go_ret
    exact ⟨ret_int HV.out.symm, Below.refl _ _⟩
  have f2 : ((ls.length : Int) == 0) = false := by rw [beq_eq_false_iff_ne]; omega
  have HL0 := Lib.hid (show ls ≠ [] from fun e => c2 (by rw [e]; rfl))
  clear c2
  have KR := Lib.hid (rises_any ls L lc w HL.out HN.out)
  cases hr : risesB ls with
  | false =>
    rw [hr] at KR
    have HV := Lib.hid (show mayV T who ls = 1 from mayV_arg (.inr (.inr hr)))
    clear hr
    go_enter Try.func13, Try.ntmps13
    go_wp2_with fail
    refine KR.out.mono ?_
    rintro e w1 ⟨rfl, hd⟩
    have HD := Lib.hid (hd.below w.heap.size)
    clear hd KR hlk hbox
    go_wp2
    go_ret
    exact ⟨ret_int HV.out.symm, HD.out⟩
  | true =>
    rw [hr] at KR
    have HC := Lib.hid (show ¬ ((T who).2.1 ≠ [] ∨ ls = [] ∨ risesB ls = false) from by
      rintro (e | e | e)
      · exact e HS0.out
      · exact HL0.out e
      · rw [hr] at e; cases e)
    clear hr
    go_enter Try.func13, Try.ntmps13
    go_wp2_with fail
    refine KR.out.mono ?_
    rintro e w1 ⟨rfl, hd⟩
    have HB1 := Lib.hid (hd.below w.heap.size)
    have HT1 := Lib.hid (HT.out.below (hd.below w.heap.size))
    have HL1 := Lib.hid (HL.out.below (hd.below w.heap.size))
    clear hd KR hlk hbox
    have hbox := Lib.cell_of_heap HT1.out.box 0
    obtain ⟨D, hown, hD⟩ := HT1.out.map
    have HDD := Lib.hid hD
    clear hD
    go_wp2_with (first
      | (at_range; refine wpList_range_own _ rfl _ 41 rfl 3 30 lkLaw Try.underlying41 _ b n _ rfl hown ?_; intro w2 hrg2 hg2 hs2)
      | go_in)
    go_frame
    have HB2 := Lib.hid (show Below w1.heap.size w1 w2 from ⟨hg2.os, hg2.tape, hg2.output, hg2.size, fun k hk => hg2.block k hk (by simp)⟩)
    have HRG2 := Lib.hid hrg2
    clear hrg2 hg2 hs2 hown hbox
    go_loopw [7, 8, 10, 34, 35, 36, 37, 38, 39, 40, 41] (fun _ _ _ _ _ _ _ _ _ _ _ wr => ∃ (left : Lit → Bool) (cnt : Nat), wr.ranges Try.prog 3 RH b w1.heap.size n D left cnt ∧ Below w1.heap.size w1 wr ∧ Seen T who ls D left)
      (fun _ _ _ _ _ _ _ _ _ _ _ wr => wr.rangeLeft b w1.heap.size)
    case atStart => exact ⟨_, _, HRG2.out, HB2.out, Seen.start _ _ _ _⟩
    case round =>
      clear HRG2 HB2
      obtain ⟨left, cnt, hrg, hbw, hseen⟩ := hrel
      have HSN := Lib.hid hseen
      have HBW := Lib.hid hbw
      clear hseen hbw
      go_wp2_with (first
        | (at_next; refine wpList_next_ranges (α := Int) (β := Value) _ rfl _ rfl 3 lkLaw RH (Value.int .i64) id (fun key kl hkey => by obtain ⟨x, rfl, _⟩ := Maps.keyOf_int_inv Try.underlying3 hkey; exact ⟨x, rfl⟩) (fun v y _ => ⟨v, rfl⟩) b w1.heap.size n _ _ _ rfl hrg ?_ ?_)
        | go_in)
      · intro _ hl0
        have HV := Lib.hid (mayV_ok HC.out (HSN.out.all hl0 HDD.out))
        clear hl0
        go_wp2
        go_ret
        exact ⟨ret_int HV.out.symm, HB1.out.trans (HBW.out.mono HB1.out.size)⟩
      · intro y c kl yd yp w3 cnt3 hkey hlx hR hat hrg3 hlt hg3 hs3 hen
        obtain ⟨y', ey, hkl, hyw⟩ := Maps.keyOf_int_inv Try.underlying3 hkey
        injection ey with _ ey
        subst ey
        subst hkl
        have hyI : In64 y := by
          have h := hyw
          simpa [Lit.wf, IntKind.min, IntKind.max, IntKind.bits, IntKind.signed, In64] using h
        have hcv : c = slV (T y) := by
          have e1 := hat (.held (.slice none 0 0))
          rw [HDD.out y hyI] at e1
          unfold RH at hR
          simp only [id, Option.some.injEq, Prod.mk.injEq] at hR
          obtain ⟨rfl, _⟩ := hR
          injection e1 with e1
          exact e1.symm
        obtain ⟨A1, ws1, c1, hs1⟩ : ∃ A1 ws1 c1, T y = (A1, ws1, c1) := ⟨_, _, _, rfl⟩
        have HS1 := Lib.hid (show (T y).2.1 = ws1 by rw [hs1])
        rw [hs1] at hcv
        unfold slV at hcv
        simp only at hcv
        subst hcv
        have HF1 := Lib.hid (show ws1.length ≤ 1000000 by have := HT1.out.few y hyI; rw [hs1] at this; exact this)
        have HB3 := Lib.hid (HBW.out.grown hg3 HBW.out.size (fun k hk => by cases hk; exact Nat.le_refl _))
        have HR1 := Lib.hid (show RdL w3 A1 ws1 from by have h := (HT1.out.rd y hyI).below HB3.out; rw [hs1] at h; exact h)
        have HL3 := Lib.hid (HL1.out.below HB3.out)
        have HRG3 := Lib.hid hrg3
        have HM := Lib.hid (show cnt3 < wr.rangeLeft b w1.heap.size by rw [hrg.left_eq]; exact hlt)
        have HSS := Lib.hid (fun hy => HSN.out.step (y := y) hy)
        have HYI := Lib.hid hyI
        try simp only [id] at hen
        clear hrg hkey hlx hR hat hrg3 hlt hg3 hs3 hyw hyI hs1 HSN HBW
        go_wp2
        go_loopw [10, 41] (fun _ i wq => ∃ j : Nat, j ≤ ws1.length ∧ i = .int .i64 j ∧ wq.ranges Try.prog 3 RH b w1.heap.size n D (fun z => left z && !z.sameKey (.int .i64 y)) cnt3 ∧ Below w3.heap.size w3 wq ∧ (y ≠ who → ∀ h ∈ ws1.take j, ∀ x ∈ ls, apartB x h = true)) (fun _ i _ => ws1.length - (intOf i).toNat)
        case atStart => exact ⟨0, Nat.zero_le _, rfl, HRG3.out, Below.refl _ _, fun _ h hh => by simp at hh⟩
        case round =>
          clear HRG3 hen
          obtain ⟨j, hj, rfl, hrg, hbq, hok⟩ := hrel
          have HRG := Lib.hid hrg
          have HBQ := Lib.hid hbq
          have HOK := Lib.hid hok
          clear hrg hbq hok
          by_cases hlt : j < ws1.length
          · obtain ⟨b1, o1, rfl, hc⟩ := (HR1.out.below HBQ.out).at_ hlt
            obtain ⟨k0, k1⟩ := hc j hlt
            have HTK := Lib.hid (show ws1.take (j + 1) = ws1.take j ++ [ws1[j]] from List.take_succ_eq_append_getElem hlt)
            clear hc
            generalize ws1[j] = hw1 at *
            obtain ⟨hk1, ha1⟩ := hw1
            simp only at k0 k1
            have e1 : IntKind.i64.wrap ((j : Int) + 1) = (j : Int) + 1 := IntWalk.i64_in _ (by have := HF1.out; omega)
            have hal := (Below.refl wr.heap.size wr).alloc (Nat.le_refl _) (.cells #[.int .i64 hk1, .bool ha1] 28)
            have HB4 := Lib.hid (HBQ.out.trans (hal.mono HBQ.out.size))
            have HA4 := Lib.hid (heap_alloc_new wr (.cells #[.int .i64 hk1, .bool ha1] 28))
            have HL4 := Lib.hid ((HL3.out.below HBQ.out).below hal)
            have HRG4 := Lib.hid (HRG.out.alloc (.cells #[.int .i64 hk1, .bool ha1] 28))
            clear hal
            by_cases hy : y = who
            · have f3 : (y != who) = false := by rw [hy]; simp
              go_wp2
              go_roundw
              case rel => exact ⟨j + 1, hlt, by go_num, HRG4.out, HB4.out, fun h => absurd hy h⟩
              case measure => simp [intOf]; omega
            · have f3 : (y != who) = true := by rw [bne_iff_ne]; exact hy
              have KC := Lib.hid (contains_any ls L lc 20 #[.pointer (some ⟨wr.heap.size, 0, none⟩)] (fun x => !apartB x (hk1, ha1)) _ HL4.out HN.out (enters_of Try.func20 (by kernel_rfl) rfl) (mayClo_any (hk1, ha1) wr.heap.size _ HA4.out))
              have HY := Lib.hid hy
              clear hy
              cases hany : ls.any (fun x => !apartB x (hk1, ha1)) with
              | true =>
                rw [hany] at KC
                have HV := Lib.hid (show mayV T who ls = 15 from mayV_busy HC.out (by
                  obtain ⟨x9, hx9, ha9⟩ := List.any_eq_true.1 hany
                  refine ⟨y, HYI.out, HY.out, (hk1, ha1), ?_, x9, hx9, by simpa using ha9⟩
                  rw [HS1.out]
                  exact List.mem_of_mem_take (i := j + 1) (by rw [HTK.out]; simp)))
                clear hany
                go_wp2_with fail
                refine KC.out.mono ?_
                rintro e w5 ⟨rfl, hb5⟩
                have HB5 := Lib.hid (HB1.out.trans ((HB3.out.trans ((HB4.out.trans (hb5.mono HB4.out.size)).mono HB3.out.size)).mono HB1.out.size))
                clear hb5 KC
                go_wp2
                go_ret
                exact ⟨ret_int HV.out.symm, HB5.out⟩
              | false =>
                rw [hany] at KC
                have HOK2 := Lib.hid (show ∀ h ∈ ws1.take (j + 1), ∀ x ∈ ls, apartB x h = true from by
                  intro h hh x hx
                  rw [HTK.out] at hh
                  rcases List.mem_append.1 hh with hh | hh
                  · exact HOK.out HY.out h hh x hx
                  · rw [List.mem_singleton.1 hh]
                    have := List.any_eq_false.1 hany x hx
                    simpa using this)
                clear hany
                go_wp2_with fail
                refine KC.out.mono ?_
                rintro e w5 ⟨rfl, hb5⟩
                have HB5 := Lib.hid (HB4.out.trans (hb5.mono HB4.out.size))
                have HRG5 := Lib.hid (HRG4.out.kept (w' := w5) (row := none) ⟨hb5.os, hb5.tape, hb5.output, hb5.size, fun k hk _ => hb5.block k hk⟩ (by simp) (by simp))
                clear hb5 KC
                go_wp2
                go_roundw
                case rel => exact ⟨j + 1, hlt, by go_num, HRG5.out, HB5.out, fun _ => HOK2.out⟩
                case measure => simp [intOf]; omega
          · obtain rfl : j = ws1.length := by omega
            rw [List.take_length] at HOK
            have HSS2 := Lib.hid (HSS.out (fun hne => by rw [HS1.out]; exact HOK.out hne))
            have HBB := Lib.hid (HB3.out.trans (HBQ.out.mono HB3.out.size))
            go_wp2
            go_roundw
            case rel => exact ⟨_, _, HRG.out, HBB.out, HSS2.out⟩
            case measure => rw [HRG.out.left_eq]; exact HM.out
end Go.Proofs.Ytfdngdnnjmcigaa
