/- The walk of Take. Conditions: the table stands; the slice can be read. -/
import Derived.Test.YtfdngdnnjmcigaaLk4
import Derived.Test.YtfdngdnnjmcigaaRegion2
namespace Go.Proofs.Ytfdngdnnjmcigaa
open Go.RowKit Go.Maps
set_option linter.unusedVariables false
set_option linter.unusedSimpArgs false
def RdLs (ls : List Wt) (m : Nat) : Fact := fun v w => ∃ (B : Option Addr) (d : Nat), v = .slice B ls.length d ∧ RdL w B ls ∧ ∀ q, blk B = some q → m ≤ q
theorem stab_rdL {ls : List Wt} {m : Nat} : Stab Stood (RdLs ls m) := fun v w w' ⟨B, d, e, hr, hf⟩ h => ⟨B, d, e, hr.below h, hf⟩
/-- What Take leaves. -/
def TakePost (T : Int → Sl) (who : Int) (ls : List Wt) (x b n : Nat) (w : World) (e : Ending) (w' : World) : Prop :=
  e = .returned (.int .i64 (mayV T who ls)) ∧ w.grownBy w' (some b) ∧ (mayV T who ls ≠ 0 → LkAt w' x b n T) ∧ (mayV T who ls = 0 → ∃ B d, LkAt w' x b (n + 1) (upd T who (B, ls, d)) ∧ ∀ q, blk B = some q → w.heap.size ≤ q)
theorem mayV_zero {T : Int → Sl} {who : Int} {ls : List Wt} (h : mayV T who ls = 0) : ls ≠ [] ∧ (T who).2.1 = [] ∧ risesB ls = true ∧ ¬ Clash T who ls := by
  by_cases h1 : (T who).2.1 ≠ [] ∨ ls = [] ∨ risesB ls = false
  · rw [mayV_arg h1] at h; cases h
  · by_cases h2 : Clash T who ls
    · rw [mayV_busy h1 h2] at h; cases h
    · refine ⟨fun e => h1 (.inr (.inl e)), ?_, ?_, h2⟩
      · rcases Classical.em ((T who).2.1 = []) with e | e
        · exact e
        · exact absurd (.inl e) h1
      · cases hr : risesB ls with
        | true => rfl
        | false => exact absurd (.inr (.inr hr)) h1
set_option maxRecDepth 100000 in
set_option maxHeartbeats 8000000 in
theorem take_any (T : Int → Sl) (who : Int) (ls : List Wt) (L : Option Addr) (lc : Nat) (w : World) (x b n : Nat) (h : LkAt w x b n T) (hw : In64 who) (hl : RdL w L ls) (hn : ls.length ≤ 1000000) (hnn : n < 1000000) :
    Calls Try.prog 8 #[.pointer (some ⟨x, 0, none⟩), .int .i64 who, .slice L ls.length lc] w fun e w' => TakePost T who ls x b n w e w' := by
  have KM := Lib.hid (may_any T who ls L lc w x b n h hw hl hn)
  have HT := Lib.hid h
  have HL := Lib.hid hl
  have HN := Lib.hid hn
  have HNN := Lib.hid hnn
  have HW := Lib.hid hw
  clear h hl hn hnn hw
  cases hm : mayV T who ls == 0 with
  | false =>
    have hm0 : mayV T who ls ≠ 0 := beq_eq_false_iff_ne.1 hm
    have hmn : (mayV T who ls != 0) = true := bne_iff_ne.2 hm0
    have HP := Lib.hid (fun w' (hb : Below w.heap.size w w') => show TakePost T who ls x b n w (.returned (.int .i64 (mayV T who ls))) w' from
      ⟨rfl, ⟨hb.os, hb.tape, hb.output, hb.size, fun k hk _ => hb.block k hk⟩, fun _ => HT.out.below hb, fun e => absurd e hm0⟩)
    clear hm hm0
    generalize hv : mayV T who ls = v at *
    have HVV := Lib.hid hv
    clear hv
    go_enter Try.func8, Try.ntmps8
    go_wp2_with fail
    refine KM.out.mono ?_
    rintro e w1 ⟨rfl, hb⟩
    have HF := Lib.hid (HP.out w1 hb)
    clear hb KM HP
    go_wp2
    go_ret
    exact HF.out
  | true =>
    have hm0 : mayV T who ls = 0 := beq_iff_eq.1 hm
    obtain ⟨hl0, _⟩ := mayV_zero hm0
    have HL0 := Lib.hid hl0
    have HM0 := Lib.hid hm0
    rw [hm0] at KM
    clear hm hm0 hl0
    go_enter Try.func8, Try.ntmps8
    go_wp2_with fail
    refine KM.out.mono ?_
    rintro e w2 ⟨rfl, hb⟩
    have HB := Lib.hid hb
    have HT2 := Lib.hid (HT.out.below hb)
    have HL := Lib.hid (HL.out.below hb)
    clear hb KM
    have hbox := Lib.cell_of_heap HT2.out.box 0
    have hbox : w2.cell? ⟨x, 0, none⟩ = some (.map (some b)) := hbox
    go_wp2_with fail
    apply wp_region_last 22 (Eqs _ :: Eqs _ :: Eqs _ :: Eqs _ :: Eqs _ :: Eqs _ :: (RdLs ls w2.heap.size) :: []) rfl (by kernel_rfl) (by rfl) (stab_cons (stab_eq _) (stab_cons (stab_eq _) (stab_cons (stab_eq _) (stab_cons (stab_eq _) (stab_cons (stab_eq _) (stab_cons (stab_eq _) (stab_cons stab_rdL stab_nil))))))) (by kernel_rfl) (by kernel_rfl) (by kernel_rfl)
    case hstep =>
      simp only [List.dropLast_cons_cons, List.dropLast_singleton]
      refine StepsOK.cons ?_ ?_
      · -- 0: Go.Op.move (Go.Operand.tmp 0)
        intro a w1 hR1 hF hU hsz
        have e0 : a.eval (.tmp 0) = _ := hU 0 (by kernel_rfl)
        rw [if_pos (by rfl)]
        intro K hK
        clear hF hU hsz
        obtain ⟨q1, q2, q3⟩ := eval_rest a
        generalize hρ : a.eval = ρ
        rw [hρ] at q1 q2 q3 e0
        clear hρ
        have u1 := OpUp_value Try.prog K
        have u2 := OpUp_enter Try.prog K
        go_simp
        exact hK _ _ (Stood.refl _) rfl
      refine StepsOK.cons ?_ ?_
      · -- 1: Go.Op.nilCheck (Go.Operand.tmp 15)
        intro a w1 hR1 hF hU hsz
        have e15 : a.eval (.tmp 15) = _ := hF 0 _ _ rfl rfl (by kernel_rfl)
        rw [if_pos (by rfl)]
        intro K hK
        clear hF hU hsz
        obtain ⟨q1, q2, q3⟩ := eval_rest a
        generalize hρ : a.eval = ρ
        rw [hρ] at q1 q2 q3 e15
        clear hρ
        have u1 := OpUp_value Try.prog K
        have u2 := OpUp_enter Try.prog K
        go_simp
        exact hK _ _ (Stood.refl _) rfl
      refine StepsOK.cons ?_ ?_
      · -- 2: Go.Op.fieldAddr 43 (Go.Operand.tmp 16) 0
        intro a w1 hR1 hF hU hsz
        have e16 : a.eval (.tmp 16) = _ := hF 1 _ _ rfl rfl (by kernel_rfl)
        rw [if_pos (by rfl)]
        intro K hK
        clear hF hU hsz
        obtain ⟨q1, q2, q3⟩ := eval_rest a
        generalize hρ : a.eval = ρ
        rw [hρ] at q1 q2 q3 e16
        clear hρ
        have u1 := OpUp_value Try.prog K
        have u2 := OpUp_enter Try.prog K
        go_simp
        exact hK _ _ (Stood.refl _) rfl
      refine StepsOK.cons ?_ ?_
      · -- 3: Go.Op.load 41 (Go.Operand.tmp 17)
        intro a w1 hR1 hF hU hsz
        have e17 : a.eval (.tmp 17) = _ := hF 2 _ _ rfl rfl (by kernel_rfl)
        rw [if_pos (by rfl)]
        intro K hK
        clear hF hU hsz
        have hbox_ := ((Stood.cur hR1).cell (cell_lt hbox)).trans hbox
        obtain ⟨q1, q2, q3⟩ := eval_rest a
        generalize hρ : a.eval = ρ
        rw [hρ] at q1 q2 q3 e17
        clear hρ
        have u1 := OpUp_value Try.prog K
        have u2 := OpUp_enter Try.prog K
        go_simp
        exact hK _ _ (Stood.refl _) rfl
      refine StepsOK.cons ?_ ?_
      · -- 4: Go.Op.move (Go.Operand.tmp 1)
        intro a w1 hR1 hF hU hsz
        have e1 : a.eval (.tmp 1) = _ := hU 1 (by kernel_rfl)
        rw [if_pos (by rfl)]
        intro K hK
        clear hF hU hsz
        obtain ⟨q1, q2, q3⟩ := eval_rest a
        generalize hρ : a.eval = ρ
        rw [hρ] at q1 q2 q3 e1
        clear hρ
        have u1 := OpUp_value Try.prog K
        have u2 := OpUp_enter Try.prog K
        go_simp
        exact hK _ _ (Stood.refl _) rfl
      refine StepsOK.cons ?_ ?_
      · -- 5: Go.Op.move (Go.Operand.tmp 2)
        intro a w1 hR1 hF hU hsz
        have e2 : a.eval (.tmp 2) = _ := hU 2 (by kernel_rfl)
        rw [if_pos (by rfl)]
        intro K hK
        clear hF hU hsz
        obtain ⟨q1, q2, q3⟩ := eval_rest a
        generalize hρ : a.eval = ρ
        rw [hρ] at q1 q2 q3 e2
        clear hρ
        have u1 := OpUp_value Try.prog K
        have u2 := OpUp_enter Try.prog K
        go_simp
        exact hK _ _ (Stood.refl _) rfl
      refine StepsOK.cons ?_ ?_
      · -- 6: Go.Op.call { callee := Go.Callee.value (Go.Operand.func 14), args := #[Go.Operan
        intro a w1 hR1 hF hU hsz
        have e20 : a.eval (.tmp 20) = _ := hF 5 _ _ rfl rfl (by kernel_rfl)
        rw [if_pos (by rfl)]
        intro K hK
        clear hF hU hsz
        obtain ⟨q1, q2, q3⟩ := eval_rest a
        generalize hρ : a.eval = ρ
        rw [hρ] at q1 q2 q3 e20
        clear hρ
        have u1 := OpUp_value Try.prog K
        have u2 := OpUp_enter Try.prog K
        go_simp
        refine (clone_any ls L lc w1 (HL.out.below (Stood.cur hR1)) HN.out HL0.out).mono ?_
        rintro e w' ⟨⟨B, d, rfl, hr, hf⟩, hb⟩
        exact ⟨_, rfl, hK _ _ hb ⟨B, d, rfl, hr, fun q hq => Nat.le_trans (Stood.cur hR1).size (hf q hq)⟩⟩
      exact StepsOK.nil
    case hend =>
      intro vs0 w1 hR1 hH0
      obtain ⟨vs1, rfl, hH1⟩ := hH0.eq_
      obtain ⟨vs2, rfl, hH2⟩ := hH1.eq_
      obtain ⟨vs3, rfl, hH3⟩ := hH2.eq_
      obtain ⟨vs4, rfl, hH4⟩ := hH3.eq_
      obtain ⟨vs5, rfl, hH5⟩ := hH4.eq_
      obtain ⟨vs6, rfl, hH6⟩ := hH5.eq_
      obtain ⟨v6, vs7, rfl, hv6, hH7⟩ := hH6.cons
      obtain rfl := hH7.nil
      clear hH0 hH1 hH2 hH3 hH4 hH5 hH6 hH7
      simp only [List.dropLast_cons_cons, List.dropLast_singleton, putAll, Act.put, List.setIfInBounds_toArray, List.set_cons_zero, List.set_cons_succ]
      obtain ⟨B, d, rfl, hr9, hf9⟩ := hv6
      have hb3 := Stood.cur hR1
      have HT3 := Lib.hid (HT2.out.below hb3)
      have HB3 := Lib.hid (HB.out.trans (hb3.mono HB.out.size))
      have HR3 := Lib.hid hr9
      have HF3 := Lib.hid hf9
      clear hR1 hr9 hf9 hb3
      obtain ⟨D, hown, hD⟩ := HT3.out.map
      have HD := Lib.hid hD
      have HO := Lib.hid hown
      have hkey := keyOf_int_mk Try.underlying3 HW.out.wf
      clear hD
      refine wpList_mapUpdate_own _ rfl _ _ _ 41 rfl 3 30 lkLaw Try.underlying41 RH b n D rfl hown (by have := HNN.out; unfold maxLen; omega) _ _ _ rfl rfl hkey _ [] rfl ?_
      intro w4 hown4 hg
      have HL4 := Lib.hid (show LkAt w4 x b (n + 1) (upd T who (B, ls, d)) from by
        obtain ⟨es, clock, hm, _⟩ := HO.out
        refine ⟨?_, ⟨_, hown4, fun z hz => ?_⟩, fun z hz => ?_, fun z hz => ?_⟩
        · refine (hg.block x (heap_lt HT3.out.box) (fun e => ?_)).trans HT3.out.box
          injection e with e
          subst e
          rw [HT3.out.box] at hm
          cases hm
        · by_cases e : z = who
          · subst e
            rw [upd_self, atKey_put_same hown.isMap (show WideAt.IsKeyLit (.int .i64 _) from trivial)]
            rfl
          · rw [upd_ne T _ e, atKey_put_other (fun h => e (by injection h))]
            exact HD.out z hz
        · by_cases e : z = who
          · subst e
            rw [upd_self]
            exact HR3.out.turn HO.out hg
          · rw [upd_ne T _ e]
            exact (HT3.out.rd z hz).turn HO.out hg
        · by_cases e : z = who
          · subst e
            rw [upd_self]
            exact HN.out
          · rw [upd_ne T _ e]
            exact HT3.out.few z hz)
      have HP := Lib.hid (show TakePost T who ls x b n w (.returned (.int .i64 0)) w4 from by
        have hg0 : w.grownBy w1 (some b) := ⟨HB3.out.os, HB3.out.tape, HB3.out.output, HB3.out.size, fun k hk _ => HB3.out.block k hk⟩
        exact ⟨by rw [HM0.out], hg0.trans hg, fun e => absurd HM0.out e, fun _ => ⟨B, d, HL4.out, fun q hq => Nat.le_trans HB.out.size (HF3.out q hq)⟩⟩)
      clear hown hown4 hg hkey HO HD HL4
      go_wp2
      go_ret
      exact HP.out
end Go.Proofs.Ytfdngdnnjmcigaa
