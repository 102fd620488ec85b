/- The walk of the statement RedoBack. Condition: the slices can be read. -/
import Derived.Test.YtgkojedgamglgaaRedoW2
import Derived.Test.YtgkojedgamglgaaRedoOrderW
namespace Go.Proofs.Ytgkojedgamglgaa
open Go.RowKit
set_option linter.unusedVariables false
set_option linter.unusedSimpArgs false
/-- Some slice of writes. -/
def RdNs (n : Nat) (ws : List (Int × BitVec 64)) : Fact := fun v w => ∃ (B : Option Addr) (d : Nat), v = .slice B n d ∧ RdW w B ws
theorem stab_rdN {n : Nat} {ws : List (Int × BitVec 64)} : Stab Stood (RdNs n ws) := fun v w w' ⟨B, d, e, hr⟩ h => ⟨B, d, e, hr.below h⟩
set_option maxRecDepth 100000 in
set_option maxHeartbeats 8000000 in
theorem RedoBack_walk (num : BitVec 64) (ws : List (Int × BitVec 64)) (L : Option Addr) (lc : Nat) (rs : List (BitVec 64)) (R : Option Addr) (rc : Nat) (at_ : Int) (v : BitVec 64) (xs : List (BitVec 64)) (A : Option Addr) (ac : Nat) (ys : List (BitVec 64)) (B : Option Addr) (bc : Nat) (w : World)
    (hl : RdW w L ws ∧ ∀ x ∈ ws, -9223372036854775808 ≤ x.1 ∧ x.1 ≤ 9223372036854775807) (hlc : ws.length ≤ lc) (hlm : lc ≤ maxLen) (hr : RdU w R rs) (hrc : rs.length ≤ rc) (hrm : rc ≤ maxLen)
    (ha0 : -9223372036854775808 ≤ at_) (ha1 : at_ ≤ 9223372036854775807) (hx : RdU w A xs) (hxc : xs.length ≤ ac) (hxm : ac ≤ maxLen) (hy : RdU w B ys) (hyc : ys.length ≤ bc) (hym : bc ≤ maxLen) :
    Calls Try.prog 10 #[.agg #[U num, .slice L ws.length lc], .slice R rs.length rc, .int .i64 at_, U v, .slice A xs.length ac, .slice B ys.length bc] w fun e w' => e = .returned (.bool true) ∧ Below w.heap.size w w' := by
  have KA := Lib.hid (fun W => redoAwake_any W)
  have HL := Lib.hid hl.1
  have HR := Lib.hid hr
  have HX := Lib.hid hx
  have HY := Lib.hid hy
  clear hl hr hx hy hlm hrm hxm hym
  have HW := Lib.hid ((Below.refl w.heap.size w).alloc (Nat.le_refl _) (.cells #[U num, .slice L ws.length lc] 25))
  have HAX := Lib.hid (heap_alloc_new w (.cells #[U num, .slice L ws.length lc] 25))
  have HL := Lib.hid (HL.out.below HW.out)
  have HR := Lib.hid (HR.out.below HW.out)
  have HX := Lib.hid (HX.out.below HW.out)
  have HY := Lib.hid (HY.out.below HW.out)
  by_cases q1 : 40 < (ws.length : Int)
  · skip
    go_enter Try.func10, Try.ntmps10
    go_wp2_with fail
    refine (KA.out _).mono ?_
    rintro e w1 ⟨rfl, hb⟩
    have HW := Lib.hid (HW.out.trans (hb.mono HW.out.size))
    have HAX := Lib.hid (heap_below HAX.out hb)
    have HL := Lib.hid (HL.out.below hb)
    have HR := Lib.hid (HR.out.below hb)
    have HX := Lib.hid (HX.out.below hb)
    have HY := Lib.hid (HY.out.below hb)
    clear hb
    obtain ⟨i0, i1⟩ := cells2 HAX.out
    go_wp2
    go_ret
    exact ⟨rfl, HW.out⟩
  by_cases q2 : 10 < (rs.length : Int)
  · skip
    go_enter Try.func10, Try.ntmps10
    go_wp2_with fail
    refine (KA.out _).mono ?_
    rintro e w1 ⟨rfl, hb⟩
    have HW := Lib.hid (HW.out.trans (hb.mono HW.out.size))
    have HAX := Lib.hid (heap_below HAX.out hb)
    have HL := Lib.hid (HL.out.below hb)
    have HR := Lib.hid (HR.out.below hb)
    have HX := Lib.hid (HX.out.below hb)
    have HY := Lib.hid (HY.out.below hb)
    clear hb
    obtain ⟨i0, i1⟩ := cells2 HAX.out
    go_wp2
    go_ret
    exact ⟨rfl, HW.out⟩
  by_cases q3 : 60 < (xs.length : Int)
  · skip
    go_enter Try.func10, Try.ntmps10
    go_wp2_with fail
    refine (KA.out _).mono ?_
    rintro e w1 ⟨rfl, hb⟩
    have HW := Lib.hid (HW.out.trans (hb.mono HW.out.size))
    have HAX := Lib.hid (heap_below HAX.out hb)
    have HL := Lib.hid (HL.out.below hb)
    have HR := Lib.hid (HR.out.below hb)
    have HX := Lib.hid (HX.out.below hb)
    have HY := Lib.hid (HY.out.below hb)
    clear hb
    obtain ⟨i0, i1⟩ := cells2 HAX.out
    go_wp2
    go_ret
    exact ⟨rfl, HW.out⟩
  by_cases q4 : 60 < (ys.length : Int)
  · skip
    go_enter Try.func10, Try.ntmps10
    go_wp2_with fail
    refine (KA.out _).mono ?_
    rintro e w1 ⟨rfl, hb⟩
    have HW := Lib.hid (HW.out.trans (hb.mono HW.out.size))
    have HAX := Lib.hid (heap_below HAX.out hb)
    have HL := Lib.hid (HL.out.below hb)
    have HR := Lib.hid (HR.out.below hb)
    have HX := Lib.hid (HX.out.below hb)
    have HY := Lib.hid (HY.out.below hb)
    clear hb
    obtain ⟨i0, i1⟩ := cells2 HAX.out
    go_wp2
    go_ret
    exact ⟨rfl, HW.out⟩
  have KP := Lib.hid (fun (W : World) h => rPut_any num ws L lc W h (by omega))
  have KW := Lib.hid (fun (W : World) (C : Option Addr) (d : Nat) h => writes_any ws C d W h (by omega))
  have KE := Lib.hid (fun (W : World) (C D : Option Addr) (c d : Nat) h h2 => equalW_any ws ws C D c d W h h2 (by omega) (by omega))
  rw [beq_self_eq_true] at KE
  by_cases hbad : num = 0#64 ∨ ws.any badW = true
  · skip
    have hre : recW num ws = [] := by unfold recW; rw [if_pos hbad]
    rw [hre] at KP
    clear hre hbad
    go_enter Try.func10, Try.ntmps10
    go_wp2_with fail
    refine (KA.out _).mono ?_
    rintro e w1 ⟨rfl, hb⟩
    have HW := Lib.hid (HW.out.trans (hb.mono HW.out.size))
    have HAX := Lib.hid (heap_below HAX.out hb)
    have HL := Lib.hid (HL.out.below hb)
    have HR := Lib.hid (HR.out.below hb)
    have HX := Lib.hid (HX.out.below hb)
    have HY := Lib.hid (HY.out.below hb)
    clear hb
    obtain ⟨i0, i1⟩ := cells2 HAX.out
    go_wp2_with fail
    refine (KP.out _ HL.out).mono ?_
    rintro e w2 ⟨⟨BP, dP, rfl, ho⟩, hb⟩
    clear ho i0 i1
    have HW := Lib.hid (HW.out.trans (hb.mono HW.out.size))
    have HAX := Lib.hid (heap_below HAX.out hb)
    have HL := Lib.hid (HL.out.below hb)
    have HR := Lib.hid (HR.out.below hb)
    have HX := Lib.hid (HX.out.below hb)
    have HY := Lib.hid (HY.out.below hb)
    clear hb
    obtain ⟨i0, i1⟩ := cells2 HAX.out
    by_cases hle : xs.length = ys.length
    · skip
      have KSM := Lib.hid (fun (W : World) h h2 => rSame_any xs ys A B ac bc W h h2 (by omega) hle)
      have KD := Lib.hid (fun (W : World) (C : Option Addr) (q : Nat) h h2 => show Calls Try.prog 38 #[.slice A xs.length ac, .slice C (diffK xs ys ys.length).length q] W (fun r w' => (∃ D d, r = .returned (.slice D ys.length d) ∧ OwnU w' W.heap.size D ys d) ∧ Below W.heap.size W w') by
        have hdl := diffK_len xs ys ys.length
        have k := rDo_any xs A ac (diffK xs ys ys.length) C q W h (by omega) h2 (by omega) (fun x hx => by
          unfold diffK at hx
          rw [List.mem_map] at hx
          obtain ⟨i, hi, rfl⟩ := hx
          have := List.mem_range.1 (List.mem_filter.1 hi).1
          simp only
          omega)
        rw [doW_all xs ys hle, hle] at k
        rw [hle]
        exact k)
      have KSA := Lib.hid (fun (W : World) (D : Option Addr) (d : Nat) h h2 => same1_any ys ys D B d bc W h h2 (by unfold maxLen; omega) (by unfold maxLen; omega))
      rw [beq_self_eq_true] at KSA
      have hee : ((xs.length : Int) == (ys.length : Int)) = true := by rw [beq_iff_eq]; omega
      generalize diffK xs ys ys.length = dk at *
      clear hle
      go_wp2_with fail
      refine (KSM.out _ HX.out HY.out).mono ?_
      rintro e w3 ⟨⟨C, q, rfl, ho⟩, hb⟩
      have HC := Lib.hid ho
      clear ho
      have HW := Lib.hid (HW.out.trans (hb.mono HW.out.size))
      have HAX := Lib.hid (heap_below HAX.out hb)
      have HL := Lib.hid (HL.out.below hb)
      have HR := Lib.hid (HR.out.below hb)
      have HX := Lib.hid (HX.out.below hb)
      have HY := Lib.hid (HY.out.below hb)
      clear hb
      go_wp2_with fail
      refine (KD.out _ C q HX.out HC.out).mono ?_
      rintro e w4 ⟨⟨D, d9, rfl, ho⟩, hb⟩
      have HD := Lib.hid ho.rd
      clear ho
      have HW := Lib.hid (HW.out.trans (hb.mono HW.out.size))
      have HAX := Lib.hid (heap_below HAX.out hb)
      have HL := Lib.hid (HL.out.below hb)
      have HR := Lib.hid (HR.out.below hb)
      have HX := Lib.hid (HX.out.below hb)
      have HY := Lib.hid (HY.out.below hb)
      have HC := Lib.hid (HC.out.below hb)
      clear hb
      go_wp2_with fail
      refine (KSA.out _ D d9 HD.out HY.out).mono ?_
      rintro e w9 ⟨rfl, hd⟩
      have HW := Lib.hid (HW.out.trans ((hd.below _).mono HW.out.size))
      go_wp2
      go_ret
      exact ⟨rfl, HW.out⟩
    · skip
      have KSM := Lib.hid (fun (W : World) => rSame_no xs ys A B ac bc W hle)
      have hee : ((xs.length : Int) == (ys.length : Int)) = false := by rw [beq_eq_false_iff_ne]; omega
      clear hle
      go_wp2_with fail
      refine (KSM.out _).mono ?_
      rintro e w9 ⟨rfl, rfl⟩
      go_wp2_with go_skip
      go_ret
      exact ⟨rfl, HW.out⟩
  have hn0 : num ≠ 0#64 := fun h => hbad (.inl h)
  have hnb : ws.any badW = false := by
    cases h : ws.any badW with
    | false => rfl
    | true => exact absurd (.inr h) hbad
  have hre : recW num ws = recL num ws ++ [sealOf (recL num ws)] := by unfold recW; rw [if_neg hbad]
  have hrl : (recW num ws).length = 3 + 2 * ws.length := by
    rw [hre, List.length_append, recL_len]
    simp only [List.length_cons, List.length_nil]
    omega
  have KG := Lib.hid (fun (W : World) (C : Option Addr) (c : Nat) (zs : List (BitVec 64)) (hz : zs = recW num ws ++ rs) (h : RdU W C zs) (h2 : zs.length ≤ c) (h3 : c ≤ maxLen) => show Calls Try.prog 40 #[.slice C zs.length c] W (fun e w' => (∃ D d, e = .returned (.tuple #[.agg #[U num, .slice D ws.length d], .bool true]) ∧ RdW w' D ws) ∧ Below W.heap.size W w') by
    have k := rdGet_any zs C c W h h2 h3
    have e := getR_back num ws rs (by omega) hn0 hnb
    rw [← hre, ← hz] at e
    unfold GetPost gtell at k
    rw [e] at k
    exact k)
  have KN := Lib.hid (fun (W : World) (C : Option Addr) (c : Nat) (k : Nat) (hk : k < (recW num ws).length) (h1 : k ≠ 1) (hv : v ≠ 0#64) (m : List (BitVec 64)) (hmm : m = (recW num ws).set k ((recW num ws)[k] ^^^ v)) (h : RdU W C m) (h2 : m.length ≤ c) (h3 : c ≤ maxLen) => show Calls Try.prog 40 #[.slice C m.length c] W (fun e w' => (∃ D d, e = .returned (.tuple #[.agg #[U 0#64, .slice D 0 d], .bool false])) ∧ Below W.heap.size W w') by
    have k2 := rdGet_any m C c W h h2 h3
    have e : getR m = none := by
      rw [hmm]
      generalize hq : recW num ws = q at *
      subst hre
      exact getR_one num ws (by omega) k hk h1 v hv
    unfold GetPost gtell at k2
    rw [e] at k2
    refine k2.mono ?_
    rintro e w' ⟨⟨D, d, he, _⟩, hb⟩
    exact ⟨⟨D, d, he⟩, hb⟩)
  clear hbad hn0 hnb hre
  generalize recW num ws = lw at *
  have hl0 : (0 : Int) < 3 + 2 * (ws.length : Int) := by omega
  rw [hrl] at KP
  have HRL := Lib.hid hrl
  clear hrl
  go_enter Try.func10, Try.ntmps10
  go_wp2_with fail
  refine (KA.out _).mono ?_
  rintro e w1 ⟨rfl, hb⟩
  have HW := Lib.hid (HW.out.trans (hb.mono HW.out.size))
  have HAX := Lib.hid (heap_below HAX.out hb)
  have HL := Lib.hid (HL.out.below hb)
  have HR := Lib.hid (HR.out.below hb)
  have HX := Lib.hid (HX.out.below hb)
  have HY := Lib.hid (HY.out.below hb)
  clear hb
  obtain ⟨i0, i1⟩ := cells2 HAX.out
  go_wp2_with fail
  refine (KP.out _ HL.out).mono ?_
  rintro e w2 ⟨⟨BP, dP, rfl, ho⟩, hb⟩
  have HP := Lib.hid ho.rd
  clear ho i0 i1
  have HW := Lib.hid (HW.out.trans (hb.mono HW.out.size))
  have HAX := Lib.hid (heap_below HAX.out hb)
  have HL := Lib.hid (HL.out.below hb)
  have HR := Lib.hid (HR.out.below hb)
  have HX := Lib.hid (HX.out.below hb)
  have HY := Lib.hid (HY.out.below hb)
  clear hb
  obtain ⟨i0, i1⟩ := cells2 HAX.out
  go_wp2_with (first | go_skip | (at_builtin; refine stop_ ?_))
  have ho_ := OwnU.lit w2 w2.heap.size [] (Nat.le_refl _) (by decide)
  have hb_ : Below w2.heap.size w2 (w2.alloc (.cells #[] 22)) := (Below.refl _ _).alloc (Nat.le_refl _) _
  refine appU (.tmp 48) (.tmp 49) rfl rfl w2.heap.size (some ⟨w2.heap.size, 0, none⟩) [] 0 0 rfl rfl ho_ BP _ _ dP rfl HRL.out.symm (HP.out.below hb_) (by have := HRL.out; simp; omega) (by simp) ?_
  intro BP5 zsP5 dP5 wP5 hzP5 hownP5 hgP5 _
  rw [List.nil_append] at hzP5
  subst hzP5
  have hbP5 := below_app hb_ ho_ hgP5 (by simp) (Nat.le_refl _)
  have HOP5 := Lib.hid hownP5
  have HBP5 := Lib.hid hbP5
  have hsP5 := hbP5.size
  clear ho_ hb_ hgP5 hownP5 hbP5
  unfold Stop
  go_wp2_with (first | go_skip | (at_builtin; refine stop_ ?_))
  refine appU (.tmp 50) (.tmp 51) rfl rfl w2.heap.size BP5 zsP5 _ dP5 rfl rfl HOP5.out R rs _ rc rfl rfl (HR.out.below HBP5.out) (by have := HRL.out; omega) hsP5 ?_
  intro B6 zs6 d6 w6 hz6 hown6 hg6 _
  have hb := below_app HBP5.out HOP5.out hg6 hsP5 (Nat.le_refl _)
  have HO6 := Lib.hid hown6
  have hc6 := hown6.cap
  have HZ6 := Lib.hid hz6
  clear hz6 hg6 hown6 HOP5 HBP5 hsP5 i0 i1
  have HW := Lib.hid (HW.out.trans (hb.mono HW.out.size))
  have HAX := Lib.hid (heap_below HAX.out hb)
  have HL := Lib.hid (HL.out.below hb)
  have HR := Lib.hid (HR.out.below hb)
  have HX := Lib.hid (HX.out.below hb)
  have HY := Lib.hid (HY.out.below hb)
  have HP := Lib.hid (HP.out.below hb)
  clear hb
  obtain ⟨i0, i1⟩ := cells2 HAX.out
  unfold Stop
  go_wp2_with fail
  refine (KG.out _ B6 d6 zs6 HZ6.out HO6.out.rd hc6.1 hc6.2).mono ?_
  rintro e w3 ⟨⟨D6, e6, rfl, hd6⟩, hb⟩
  have HG := Lib.hid hd6
  clear hd6 HO6 hc6 HZ6 i0 i1
  have HW := Lib.hid (HW.out.trans (hb.mono HW.out.size))
  have HAX := Lib.hid (heap_below HAX.out hb)
  have HL := Lib.hid (HL.out.below hb)
  have HR := Lib.hid (HR.out.below hb)
  have HX := Lib.hid (HX.out.below hb)
  have HY := Lib.hid (HY.out.below hb)
  have HP := Lib.hid (HP.out.below hb)
  clear hb
  have HXR := Lib.hid (heap_alloc_new w3 (.cells #[U num, .slice D6 ws.length e6] 25))
  have hba : Below w3.heap.size w3 (w3.alloc (.cells #[U num, .slice D6 ws.length e6] 25)) := (Below.refl _ _).alloc (Nat.le_refl _) _
  have HW := Lib.hid (HW.out.trans (hba.mono HW.out.size))
  have HAX := Lib.hid (heap_below HAX.out hba)
  have HL := Lib.hid (HL.out.below hba)
  have HR := Lib.hid (HR.out.below hba)
  have HX := Lib.hid (HX.out.below hba)
  have HY := Lib.hid (HY.out.below hba)
  have HP := Lib.hid (HP.out.below hba)
  have HG := Lib.hid (HG.out.below hba)
  clear hba
  go_wp2_with fail
  apply wp_region_inv' 133 (Eqs _ :: Eqs _ :: Eqs _ :: Eqs _ :: Eqs _ :: Eqs _ :: Eqs _ :: Eqs _ :: Eqs _ :: Eqs _ :: Eqs _ :: Eqs _ :: (RdNs ws.length ws) :: Eqs _ :: Eqs _ :: (RdNs ws.length ws) :: Eqs _ :: Eqs _ :: Eqs _ :: []) (by kernel_rfl) (by rfl) (stab_cons (stab_eq _) (stab_cons (stab_eq _) (stab_cons (stab_eq _) (stab_cons (stab_eq _) (stab_cons (stab_eq _) (stab_cons (stab_eq _) (stab_cons (stab_eq _) (stab_cons (stab_eq _) (stab_cons (stab_eq _) (stab_cons (stab_eq _) (stab_cons (stab_eq _) (stab_cons (stab_eq _) (stab_cons stab_rdN (stab_cons (stab_eq _) (stab_cons (stab_eq _) (stab_cons stab_rdN (stab_cons (stab_eq _) (stab_cons (stab_eq _) (stab_cons (stab_eq _) stab_nil))))))))))))))))))) (by kernel_rfl) (by kernel_rfl)
  case hstep =>
    refine StepsOK.cons ?_ ?_
    · -- 0: Go.Op.move (Go.Operand.tmp 15)
      intro a w1 hR1 hF hU hsz
      have e15 : a.eval (.tmp 15) = _ := hU 15 (by kernel_rfl)
      rw [if_pos (by rfl)]
      intro K hK
      clear hF hU hsz
      obtain ⟨q1, q2, q3⟩ := eval_rest a
      generalize hρ : a.eval = ρ
      rw [hρ] at q1 q2 q3 e15
      clear hρ
      have u1 := OpUp_value Try.prog K
      have u2 := OpUp_enter Try.prog K
      go_simp
      exact hK _ _ (Stood.refl _) rfl
    refine StepsOK.cons ?_ ?_
    · -- 1: Go.Op.unOp Go.UnOp.not 4 (Go.Operand.tmp 56)
      intro a w1 hR1 hF hU hsz
      have e56 : a.eval (.tmp 56) = _ := hF 0 _ _ rfl rfl (by kernel_rfl)
      rw [if_pos (by rfl)]
      intro K hK
      clear hF hU hsz
      obtain ⟨q1, q2, q3⟩ := eval_rest a
      generalize hρ : a.eval = ρ
      rw [hρ] at q1 q2 q3 e56
      clear hρ
      have u1 := OpUp_value Try.prog K
      have u2 := OpUp_enter Try.prog K
      go_simp
      exact hK _ _ (Stood.refl _) rfl
    refine StepsOK.cons ?_ ?_
    · -- 2: Go.Op.move (Go.Operand.tmp 57)
      intro a w1 hR1 hF hU hsz
      have e57 : a.eval (.tmp 57) = _ := hF 1 _ _ rfl rfl (by kernel_rfl)
      rw [if_pos (by rfl)]
      intro K hK
      clear hF hU hsz
      obtain ⟨q1, q2, q3⟩ := eval_rest a
      generalize hρ : a.eval = ρ
      rw [hρ] at q1 q2 q3 e57
      clear hρ
      have u1 := OpUp_value Try.prog K
      have u2 := OpUp_enter Try.prog K
      go_simp
      exact hK _ _ (Stood.refl _) rfl
    refine StepsOK.cons ?_ ?_
    · -- 3: Go.Op.fieldAddr 25 (Go.Operand.tmp 14) 0
      intro a w1 hR1 hF hU hsz
      have e14 : a.eval (.tmp 14) = _ := hU 14 (by kernel_rfl)
      have e58 : a.eval (.tmp 58) = _ := hF 2 _ _ rfl rfl (by kernel_rfl)
      rw [wanted_guard (ops := _) rfl rfl rfl e58, if_pos (by rfl)]
      intro K hK
      clear hF hU hsz
      obtain ⟨q1, q2, q3⟩ := eval_rest a
      generalize hρ : a.eval = ρ
      rw [hρ] at q1 q2 q3 e14 e58
      clear hρ
      have u1 := OpUp_value Try.prog K
      have u2 := OpUp_enter Try.prog K
      go_simp
      exact hK _ _ (Stood.refl _) rfl
    refine StepsOK.cons ?_ ?_
    · -- 4: Go.Op.load 22 (Go.Operand.tmp 59)
      intro a w1 hR1 hF hU hsz
      have e59 : a.eval (.tmp 59) = _ := hF 3 _ _ rfl rfl (by kernel_rfl)
      have e58 : a.eval (.tmp 58) = _ := hF 2 _ _ rfl rfl (by kernel_rfl)
      rw [wanted_guard (ops := _) rfl rfl rfl e58, if_pos (by rfl)]
      intro K hK
      clear hF hU hsz
      obtain ⟨c0_, c1_⟩ := cells2 (heap_below HXR.out (Stood.cur hR1))
      obtain ⟨q1, q2, q3⟩ := eval_rest a
      generalize hρ : a.eval = ρ
      rw [hρ] at q1 q2 q3 e58 e59
      clear hρ
      have u1 := OpUp_value Try.prog K
      have u2 := OpUp_enter Try.prog K
      go_simp
      exact hK _ _ (Stood.refl _) rfl
    refine StepsOK.cons ?_ ?_
    · -- 5: Go.Op.fieldAddr 25 (Go.Operand.tmp 6) 0
      intro a w1 hR1 hF hU hsz
      have e6 : a.eval (.tmp 6) = _ := hU 6 (by kernel_rfl)
      have e58 : a.eval (.tmp 58) = _ := hF 2 _ _ rfl rfl (by kernel_rfl)
      rw [wanted_guard (ops := _) rfl rfl rfl e58, if_pos (by rfl)]
      intro K hK
      clear hF hU hsz
      obtain ⟨q1, q2, q3⟩ := eval_rest a
      generalize hρ : a.eval = ρ
      rw [hρ] at q1 q2 q3 e6 e58
      clear hρ
      have u1 := OpUp_value Try.prog K
      have u2 := OpUp_enter Try.prog K
      go_simp
      exact hK _ _ (Stood.refl _) rfl
    refine StepsOK.cons ?_ ?_
    · -- 6: Go.Op.load 22 (Go.Operand.tmp 61)
      intro a w1 hR1 hF hU hsz
      have e61 : a.eval (.tmp 61) = _ := hF 5 _ _ rfl rfl (by kernel_rfl)
      have e58 : a.eval (.tmp 58) = _ := hF 2 _ _ rfl rfl (by kernel_rfl)
      rw [wanted_guard (ops := _) rfl rfl rfl e58, if_pos (by rfl)]
      intro K hK
      clear hF hU hsz
      obtain ⟨c0_, c1_⟩ := cells2 (heap_below HAX.out (Stood.cur hR1))
      obtain ⟨q1, q2, q3⟩ := eval_rest a
      generalize hρ : a.eval = ρ
      rw [hρ] at q1 q2 q3 e58 e61
      clear hρ
      have u1 := OpUp_value Try.prog K
      have u2 := OpUp_enter Try.prog K
      go_simp
      exact hK _ _ (Stood.refl _) rfl
    refine StepsOK.cons ?_ ?_
    · -- 7: Go.Op.binOp Go.BinOp.neq 22 (Go.Operand.tmp 60) (Go.Operand.tmp 62) 22
      intro a w1 hR1 hF hU hsz
      have e60 : a.eval (.tmp 60) = _ := hF 4 _ _ rfl rfl (by kernel_rfl)
      have e62 : a.eval (.tmp 62) = _ := hF 6 _ _ rfl rfl (by kernel_rfl)
      have e58 : a.eval (.tmp 58) = _ := hF 2 _ _ rfl rfl (by kernel_rfl)
      rw [wanted_guard (ops := _) rfl rfl rfl e58, if_pos (by rfl)]
      intro K hK
      clear hF hU hsz
      obtain ⟨q1, q2, q3⟩ := eval_rest a
      generalize hρ : a.eval = ρ
      rw [hρ] at q1 q2 q3 e58 e60 e62
      clear hρ
      have u1 := OpUp_value Try.prog K
      have u2 := OpUp_enter Try.prog K
      go_simp
      exact hK _ _ (Stood.refl _) rfl
    refine StepsOK.cons ?_ ?_
    · -- 8: Go.Op.pick (Go.Operand.tmp 58) (Go.Operand.const (Go.Value.bool true)) (Go.Opera
      intro a w1 hR1 hF hU hsz
      have e58 : a.eval (.tmp 58) = _ := hF 2 _ _ rfl rfl (by kernel_rfl)
      have e63 : a.eval (.tmp 63) = _ := hF 7 _ _ rfl rfl (by kernel_rfl)
      rw [if_pos (by rfl)]
      intro K hK
      clear hF hU hsz
      obtain ⟨q1, q2, q3⟩ := eval_rest a
      generalize hρ : a.eval = ρ
      rw [hρ] at q1 q2 q3 e58 e63
      clear hρ
      have u1 := OpUp_value Try.prog K
      have u2 := OpUp_enter Try.prog K
      go_simp
      exact hK _ _ (Stood.refl _) rfl
    refine StepsOK.cons ?_ ?_
    · -- 9: Go.Op.move (Go.Operand.tmp 64)
      intro a w1 hR1 hF hU hsz
      have e64 : a.eval (.tmp 64) = _ := hF 8 _ _ rfl rfl (by kernel_rfl)
      rw [if_pos (by rfl)]
      intro K hK
      clear hF hU hsz
      obtain ⟨q1, q2, q3⟩ := eval_rest a
      generalize hρ : a.eval = ρ
      rw [hρ] at q1 q2 q3 e64
      clear hρ
      have u1 := OpUp_value Try.prog K
      have u2 := OpUp_enter Try.prog K
      go_simp
      exact hK _ _ (Stood.refl _) rfl
    refine StepsOK.cons ?_ ?_
    · -- 10: Go.Op.fieldAddr 25 (Go.Operand.tmp 14) 1
      intro a w1 hR1 hF hU hsz
      have e14 : a.eval (.tmp 14) = _ := hU 14 (by kernel_rfl)
      have e65 : a.eval (.tmp 65) = _ := hF 9 _ _ rfl rfl (by kernel_rfl)
      rw [wanted_guard (ops := _) rfl rfl rfl e65, if_pos (by rfl)]
      intro K hK
      clear hF hU hsz
      obtain ⟨q1, q2, q3⟩ := eval_rest a
      generalize hρ : a.eval = ρ
      rw [hρ] at q1 q2 q3 e14 e65
      clear hρ
      have u1 := OpUp_value Try.prog K
      have u2 := OpUp_enter Try.prog K
      go_simp
      exact hK _ _ (Stood.refl _) rfl
    refine StepsOK.cons ?_ ?_
    · -- 11: Go.Op.load 23 (Go.Operand.tmp 66)
      intro a w1 hR1 hF hU hsz
      have e66 : a.eval (.tmp 66) = _ := hF 10 _ _ rfl rfl (by kernel_rfl)
      have e65 : a.eval (.tmp 65) = _ := hF 9 _ _ rfl rfl (by kernel_rfl)
      rw [wanted_guard (ops := _) rfl rfl rfl e65, if_pos (by rfl)]
      intro K hK
      clear hF hU hsz
      obtain ⟨c0_, c1_⟩ := cells2 (heap_below HXR.out (Stood.cur hR1))
      obtain ⟨q1, q2, q3⟩ := eval_rest a
      generalize hρ : a.eval = ρ
      rw [hρ] at q1 q2 q3 e65 e66
      clear hρ
      have u1 := OpUp_value Try.prog K
      have u2 := OpUp_enter Try.prog K
      go_simp
      exact hK _ _ (Stood.refl _) rfl
    refine StepsOK.cons ?_ ?_
    · -- 12: Go.Op.call { callee := Go.Callee.value (Go.Operand.func 42), args := #[Go.Operan
      intro a w1 hR1 hF hU hsz
      have e67 : a.eval (.tmp 67) = _ := hF 11 _ _ rfl rfl (by kernel_rfl)
      have e65 : a.eval (.tmp 65) = _ := hF 9 _ _ rfl rfl (by kernel_rfl)
      rw [wanted_guard (ops := _) rfl rfl rfl e65, if_pos (by rfl)]
      intro K hK
      clear hF hU hsz
      obtain ⟨q1, q2, q3⟩ := eval_rest a
      generalize hρ : a.eval = ρ
      rw [hρ] at q1 q2 q3 e65 e67
      clear hρ
      have u1 := OpUp_value Try.prog K
      have u2 := OpUp_enter Try.prog K
      go_simp
      refine (KW.out w1 _ _ (HG.out.below (Stood.cur hR1))).mono ?_
      rintro e w' ⟨⟨B9, d9, rfl, hr9⟩, hb⟩
      exact ⟨_, rfl, hK _ _ hb ⟨B9, d9, rfl, hr9⟩⟩
    refine StepsOK.cons ?_ ?_
    · -- 13: Go.Op.fieldAddr 25 (Go.Operand.tmp 6) 1
      intro a w1 hR1 hF hU hsz
      have e6 : a.eval (.tmp 6) = _ := hU 6 (by kernel_rfl)
      have e65 : a.eval (.tmp 65) = _ := hF 9 _ _ rfl rfl (by kernel_rfl)
      rw [wanted_guard (ops := _) rfl rfl rfl e65, if_pos (by rfl)]
      intro K hK
      clear hF hU hsz
      obtain ⟨q1, q2, q3⟩ := eval_rest a
      generalize hρ : a.eval = ρ
      rw [hρ] at q1 q2 q3 e6 e65
      clear hρ
      have u1 := OpUp_value Try.prog K
      have u2 := OpUp_enter Try.prog K
      go_simp
      exact hK _ _ (Stood.refl _) rfl
    refine StepsOK.cons ?_ ?_
    · -- 14: Go.Op.load 23 (Go.Operand.tmp 69)
      intro a w1 hR1 hF hU hsz
      have e69 : a.eval (.tmp 69) = _ := hF 13 _ _ rfl rfl (by kernel_rfl)
      have e65 : a.eval (.tmp 65) = _ := hF 9 _ _ rfl rfl (by kernel_rfl)
      rw [wanted_guard (ops := _) rfl rfl rfl e65, if_pos (by rfl)]
      intro K hK
      clear hF hU hsz
      obtain ⟨c0_, c1_⟩ := cells2 (heap_below HAX.out (Stood.cur hR1))
      obtain ⟨q1, q2, q3⟩ := eval_rest a
      generalize hρ : a.eval = ρ
      rw [hρ] at q1 q2 q3 e65 e69
      clear hρ
      have u1 := OpUp_value Try.prog K
      have u2 := OpUp_enter Try.prog K
      go_simp
      exact hK _ _ (Stood.refl _) rfl
    refine StepsOK.cons ?_ ?_
    · -- 15: Go.Op.call { callee := Go.Callee.value (Go.Operand.func 42), args := #[Go.Operan
      intro a w1 hR1 hF hU hsz
      have e70 : a.eval (.tmp 70) = _ := hF 14 _ _ rfl rfl (by kernel_rfl)
      have e65 : a.eval (.tmp 65) = _ := hF 9 _ _ rfl rfl (by kernel_rfl)
      rw [wanted_guard (ops := _) rfl rfl rfl e65, if_pos (by rfl)]
      intro K hK
      clear hF hU hsz
      obtain ⟨q1, q2, q3⟩ := eval_rest a
      generalize hρ : a.eval = ρ
      rw [hρ] at q1 q2 q3 e65 e70
      clear hρ
      have u1 := OpUp_value Try.prog K
      have u2 := OpUp_enter Try.prog K
      go_simp
      refine (KW.out w1 _ _ (HL.out.below (Stood.cur hR1))).mono ?_
      rintro e w' ⟨⟨B9, d9, rfl, hr9⟩, hb⟩
      exact ⟨_, rfl, hK _ _ hb ⟨B9, d9, rfl, hr9⟩⟩
    refine StepsOK.cons ?_ ?_
    · -- 16: Go.Op.call { callee := Go.Callee.value (Go.Operand.func 41), args := #[Go.Operan
      intro a w1 hR1 hF hU hsz
      have e68 := hF 12 _ _ rfl rfl (by kernel_rfl)
      obtain ⟨B68, d68, e68, r68⟩ := e68
      have e68 : a.eval (.tmp 68) = _ := e68
      have e71 := hF 15 _ _ rfl rfl (by kernel_rfl)
      obtain ⟨B71, d71, e71, r71⟩ := e71
      have e71 : a.eval (.tmp 71) = _ := e71
      have e65 : a.eval (.tmp 65) = _ := hF 9 _ _ rfl rfl (by kernel_rfl)
      rw [wanted_guard (ops := _) rfl rfl rfl e65, if_pos (by rfl)]
      intro K hK
      clear hF hU hsz
      obtain ⟨q1, q2, q3⟩ := eval_rest a
      generalize hρ : a.eval = ρ
      rw [hρ] at q1 q2 q3 e65 e68 e71
      clear hρ
      have u1 := OpUp_value Try.prog K
      have u2 := OpUp_enter Try.prog K
      go_simp
      refine (KE.out w1 B68 B71 d68 d71 r68 r71).mono ?_
      rintro e w' ⟨rfl, hd⟩
      exact ⟨_, rfl, hK _ _ (hd.below _) rfl⟩
    refine StepsOK.cons ?_ ?_
    · -- 17: Go.Op.unOp Go.UnOp.not 4 (Go.Operand.tmp 72)
      intro a w1 hR1 hF hU hsz
      have e72 : a.eval (.tmp 72) = _ := hF 16 _ _ rfl rfl (by kernel_rfl)
      have e65 : a.eval (.tmp 65) = _ := hF 9 _ _ rfl rfl (by kernel_rfl)
      rw [wanted_guard (ops := _) rfl rfl rfl e65, if_pos (by rfl)]
      intro K hK
      clear hF hU hsz
      obtain ⟨q1, q2, q3⟩ := eval_rest a
      generalize hρ : a.eval = ρ
      rw [hρ] at q1 q2 q3 e65 e72
      clear hρ
      have u1 := OpUp_value Try.prog K
      have u2 := OpUp_enter Try.prog K
      go_simp
      exact hK _ _ (Stood.refl _) rfl
    refine StepsOK.cons ?_ ?_
    · -- 18: Go.Op.pick (Go.Operand.tmp 65) (Go.Operand.const (Go.Value.bool true)) (Go.Opera
      intro a w1 hR1 hF hU hsz
      have e65 : a.eval (.tmp 65) = _ := hF 9 _ _ rfl rfl (by kernel_rfl)
      have e73 : a.eval (.tmp 73) = _ := hF 17 _ _ rfl rfl (by kernel_rfl)
      rw [if_pos (by rfl)]
      intro K hK
      clear hF hU hsz
      obtain ⟨q1, q2, q3⟩ := eval_rest a
      generalize hρ : a.eval = ρ
      rw [hρ] at q1 q2 q3 e65 e73
      clear hρ
      have u1 := OpUp_value Try.prog K
      have u2 := OpUp_enter Try.prog K
      go_simp
      exact hK _ _ (Stood.refl _) rfl
    exact StepsOK.nil
  case hend =>
    intro vs0 w1 hR1 hH0
    obtain ⟨vs1, rfl, hH1⟩ := hH0.eq_
    obtain ⟨vs2, rfl, hH2⟩ := hH1.eq_
    obtain ⟨vs3, rfl, hH3⟩ := hH2.eq_
    obtain ⟨vs4, rfl, hH4⟩ := hH3.eq_
    obtain ⟨vs5, rfl, hH5⟩ := hH4.eq_
    obtain ⟨vs6, rfl, hH6⟩ := hH5.eq_
    obtain ⟨vs7, rfl, hH7⟩ := hH6.eq_
    obtain ⟨vs8, rfl, hH8⟩ := hH7.eq_
    obtain ⟨vs9, rfl, hH9⟩ := hH8.eq_
    obtain ⟨vs10, rfl, hH10⟩ := hH9.eq_
    obtain ⟨vs11, rfl, hH11⟩ := hH10.eq_
    obtain ⟨vs12, rfl, hH12⟩ := hH11.eq_
    obtain ⟨v12, vs13, rfl, hv12, hH13⟩ := hH12.cons
    obtain ⟨vs14, rfl, hH14⟩ := hH13.eq_
    obtain ⟨vs15, rfl, hH15⟩ := hH14.eq_
    obtain ⟨v15, vs16, rfl, hv15, hH16⟩ := hH15.cons
    obtain ⟨vs17, rfl, hH17⟩ := hH16.eq_
    obtain ⟨vs18, rfl, hH18⟩ := hH17.eq_
    obtain ⟨vs19, rfl, hH19⟩ := hH18.eq_
    obtain rfl := hH19.nil
    clear hH0 hH1 hH2 hH3 hH4 hH5 hH6 hH7 hH8 hH9 hH10 hH11 hH12 hH13 hH14 hH15 hH16 hH17 hH18 hH19
    simp only [putAll, Act.put, List.setIfInBounds_toArray, List.set_cons_zero, List.set_cons_succ]
    have hb := (Stood.cur hR1)
    have HW := Lib.hid (HW.out.trans (hb.mono HW.out.size))
    have HAX := Lib.hid (heap_below HAX.out hb)
    have HL := Lib.hid (HL.out.below hb)
    have HR := Lib.hid (HR.out.below hb)
    have HX := Lib.hid (HX.out.below hb)
    have HY := Lib.hid (HY.out.below hb)
    have HP := Lib.hid (HP.out.below hb)
    have HG := Lib.hid (HG.out.below hb)
    have HXR := Lib.hid (heap_below HXR.out hb)
    clear hb hR1 HXR HG
    by_cases q5 : at_ < 0
    · skip
      have q5b : ¬ 0 ≤ at_ := by omega
      by_cases hle : xs.length = ys.length
      · skip
        have KSM := Lib.hid (fun (W : World) h h2 => rSame_any xs ys A B ac bc W h h2 (by omega) hle)
        have KD := Lib.hid (fun (W : World) (C : Option Addr) (q : Nat) h h2 => show Calls Try.prog 38 #[.slice A xs.length ac, .slice C (diffK xs ys ys.length).length q] W (fun r w' => (∃ D d, r = .returned (.slice D ys.length d) ∧ OwnU w' W.heap.size D ys d) ∧ Below W.heap.size W w') by
          have hdl := diffK_len xs ys ys.length
          have k := rDo_any xs A ac (diffK xs ys ys.length) C q W h (by omega) h2 (by omega) (fun x hx => by
            unfold diffK at hx
            rw [List.mem_map] at hx
            obtain ⟨i, hi, rfl⟩ := hx
            have := List.mem_range.1 (List.mem_filter.1 hi).1
            simp only
            omega)
          rw [doW_all xs ys hle, hle] at k
          rw [hle]
          exact k)
        have KSA := Lib.hid (fun (W : World) (D : Option Addr) (d : Nat) h h2 => same1_any ys ys D B d bc W h h2 (by unfold maxLen; omega) (by unfold maxLen; omega))
        rw [beq_self_eq_true] at KSA
        have hee : ((xs.length : Int) == (ys.length : Int)) = true := by rw [beq_iff_eq]; omega
        generalize diffK xs ys ys.length = dk at *
        clear hle
        go_wp2_with fail
        refine (KSM.out _ HX.out HY.out).mono ?_
        rintro e w4 ⟨⟨C, q, rfl, ho⟩, hb⟩
        have HC := Lib.hid ho
        clear ho
        have HW := Lib.hid (HW.out.trans (hb.mono HW.out.size))
        have HAX := Lib.hid (heap_below HAX.out hb)
        have HL := Lib.hid (HL.out.below hb)
        have HR := Lib.hid (HR.out.below hb)
        have HX := Lib.hid (HX.out.below hb)
        have HY := Lib.hid (HY.out.below hb)
        have HP := Lib.hid (HP.out.below hb)
        clear hb
        go_wp2_with fail
        refine (KD.out _ C q HX.out HC.out).mono ?_
        rintro e w5 ⟨⟨D, d9, rfl, ho⟩, hb⟩
        have HD := Lib.hid ho.rd
        clear ho
        have HW := Lib.hid (HW.out.trans (hb.mono HW.out.size))
        have HAX := Lib.hid (heap_below HAX.out hb)
        have HL := Lib.hid (HL.out.below hb)
        have HR := Lib.hid (HR.out.below hb)
        have HX := Lib.hid (HX.out.below hb)
        have HY := Lib.hid (HY.out.below hb)
        have HP := Lib.hid (HP.out.below hb)
        have HC := Lib.hid (HC.out.below hb)
        clear hb
        go_wp2_with fail
        refine (KSA.out _ D d9 HD.out HY.out).mono ?_
        rintro e w9 ⟨rfl, hd⟩
        have HW := Lib.hid (HW.out.trans ((hd.below _).mono HW.out.size))
        go_wp2
        go_ret
        exact ⟨rfl, HW.out⟩
      · skip
        have KSM := Lib.hid (fun (W : World) => rSame_no xs ys A B ac bc W hle)
        have hee : ((xs.length : Int) == (ys.length : Int)) = false := by rw [beq_eq_false_iff_ne]; omega
        clear hle
        go_wp2_with fail
        refine (KSM.out _).mono ?_
        rintro e w9 ⟨rfl, rfl⟩
        go_wp2_with go_skip
        go_ret
        exact ⟨rfl, HW.out⟩
    by_cases q6 : 3 + 2 * (ws.length : Int) ≤ at_
    · skip
      have q6b : ¬ at_ < 3 + 2 * (ws.length : Int) := by omega
      by_cases hle : xs.length = ys.length
      · skip
        have KSM := Lib.hid (fun (W : World) h h2 => rSame_any xs ys A B ac bc W h h2 (by omega) hle)
        have KD := Lib.hid (fun (W : World) (C : Option Addr) (q : Nat) h h2 => show Calls Try.prog 38 #[.slice A xs.length ac, .slice C (diffK xs ys ys.length).length q] W (fun r w' => (∃ D d, r = .returned (.slice D ys.length d) ∧ OwnU w' W.heap.size D ys d) ∧ Below W.heap.size W w') by
          have hdl := diffK_len xs ys ys.length
          have k := rDo_any xs A ac (diffK xs ys ys.length) C q W h (by omega) h2 (by omega) (fun x hx => by
            unfold diffK at hx
            rw [List.mem_map] at hx
            obtain ⟨i, hi, rfl⟩ := hx
            have := List.mem_range.1 (List.mem_filter.1 hi).1
            simp only
            omega)
          rw [doW_all xs ys hle, hle] at k
          rw [hle]
          exact k)
        have KSA := Lib.hid (fun (W : World) (D : Option Addr) (d : Nat) h h2 => same1_any ys ys D B d bc W h h2 (by unfold maxLen; omega) (by unfold maxLen; omega))
        rw [beq_self_eq_true] at KSA
        have hee : ((xs.length : Int) == (ys.length : Int)) = true := by rw [beq_iff_eq]; omega
        generalize diffK xs ys ys.length = dk at *
        clear hle
        go_wp2_with fail
        refine (KSM.out _ HX.out HY.out).mono ?_
        rintro e w4 ⟨⟨C, q, rfl, ho⟩, hb⟩
        have HC := Lib.hid ho
        clear ho
        have HW := Lib.hid (HW.out.trans (hb.mono HW.out.size))
        have HAX := Lib.hid (heap_below HAX.out hb)
        have HL := Lib.hid (HL.out.below hb)
        have HR := Lib.hid (HR.out.below hb)
        have HX := Lib.hid (HX.out.below hb)
        have HY := Lib.hid (HY.out.below hb)
        have HP := Lib.hid (HP.out.below hb)
        clear hb
        go_wp2_with fail
        refine (KD.out _ C q HX.out HC.out).mono ?_
        rintro e w5 ⟨⟨D, d9, rfl, ho⟩, hb⟩
        have HD := Lib.hid ho.rd
        clear ho
        have HW := Lib.hid (HW.out.trans (hb.mono HW.out.size))
        have HAX := Lib.hid (heap_below HAX.out hb)
        have HL := Lib.hid (HL.out.below hb)
        have HR := Lib.hid (HR.out.below hb)
        have HX := Lib.hid (HX.out.below hb)
        have HY := Lib.hid (HY.out.below hb)
        have HP := Lib.hid (HP.out.below hb)
        have HC := Lib.hid (HC.out.below hb)
        clear hb
        go_wp2_with fail
        refine (KSA.out _ D d9 HD.out HY.out).mono ?_
        rintro e w9 ⟨rfl, hd⟩
        have HW := Lib.hid (HW.out.trans ((hd.below _).mono HW.out.size))
        go_wp2
        go_ret
        exact ⟨rfl, HW.out⟩
      · skip
        have KSM := Lib.hid (fun (W : World) => rSame_no xs ys A B ac bc W hle)
        have hee : ((xs.length : Int) == (ys.length : Int)) = false := by rw [beq_eq_false_iff_ne]; omega
        clear hle
        go_wp2_with fail
        refine (KSM.out _).mono ?_
        rintro e w9 ⟨rfl, rfl⟩
        go_wp2_with go_skip
        go_ret
        exact ⟨rfl, HW.out⟩
    by_cases q7 : at_ = 1
    · skip
      subst q7
      have q7b : ((1 : Int) != 1) = false := rfl
      by_cases hle : xs.length = ys.length
      · skip
        have KSM := Lib.hid (fun (W : World) h h2 => rSame_any xs ys A B ac bc W h h2 (by omega) hle)
        have KD := Lib.hid (fun (W : World) (C : Option Addr) (q : Nat) h h2 => show Calls Try.prog 38 #[.slice A xs.length ac, .slice C (diffK xs ys ys.length).length q] W (fun r w' => (∃ D d, r = .returned (.slice D ys.length d) ∧ OwnU w' W.heap.size D ys d) ∧ Below W.heap.size W w') by
          have hdl := diffK_len xs ys ys.length
          have k := rDo_any xs A ac (diffK xs ys ys.length) C q W h (by omega) h2 (by omega) (fun x hx => by
            unfold diffK at hx
            rw [List.mem_map] at hx
            obtain ⟨i, hi, rfl⟩ := hx
            have := List.mem_range.1 (List.mem_filter.1 hi).1
            simp only
            omega)
          rw [doW_all xs ys hle, hle] at k
          rw [hle]
          exact k)
        have KSA := Lib.hid (fun (W : World) (D : Option Addr) (d : Nat) h h2 => same1_any ys ys D B d bc W h h2 (by unfold maxLen; omega) (by unfold maxLen; omega))
        rw [beq_self_eq_true] at KSA
        have hee : ((xs.length : Int) == (ys.length : Int)) = true := by rw [beq_iff_eq]; omega
        generalize diffK xs ys ys.length = dk at *
        clear hle
        go_wp2_with fail
        refine (KSM.out _ HX.out HY.out).mono ?_
        rintro e w4 ⟨⟨C, q, rfl, ho⟩, hb⟩
        have HC := Lib.hid ho
        clear ho
        have HW := Lib.hid (HW.out.trans (hb.mono HW.out.size))
        have HAX := Lib.hid (heap_below HAX.out hb)
        have HL := Lib.hid (HL.out.below hb)
        have HR := Lib.hid (HR.out.below hb)
        have HX := Lib.hid (HX.out.below hb)
        have HY := Lib.hid (HY.out.below hb)
        have HP := Lib.hid (HP.out.below hb)
        clear hb
        go_wp2_with fail
        refine (KD.out _ C q HX.out HC.out).mono ?_
        rintro e w5 ⟨⟨D, d9, rfl, ho⟩, hb⟩
        have HD := Lib.hid ho.rd
        clear ho
        have HW := Lib.hid (HW.out.trans (hb.mono HW.out.size))
        have HAX := Lib.hid (heap_below HAX.out hb)
        have HL := Lib.hid (HL.out.below hb)
        have HR := Lib.hid (HR.out.below hb)
        have HX := Lib.hid (HX.out.below hb)
        have HY := Lib.hid (HY.out.below hb)
        have HP := Lib.hid (HP.out.below hb)
        have HC := Lib.hid (HC.out.below hb)
        clear hb
        go_wp2_with fail
        refine (KSA.out _ D d9 HD.out HY.out).mono ?_
        rintro e w9 ⟨rfl, hd⟩
        have HW := Lib.hid (HW.out.trans ((hd.below _).mono HW.out.size))
        go_wp2
        go_ret
        exact ⟨rfl, HW.out⟩
      · skip
        have KSM := Lib.hid (fun (W : World) => rSame_no xs ys A B ac bc W hle)
        have hee : ((xs.length : Int) == (ys.length : Int)) = false := by rw [beq_eq_false_iff_ne]; omega
        clear hle
        go_wp2_with fail
        refine (KSM.out _).mono ?_
        rintro e w9 ⟨rfl, rfl⟩
        go_wp2_with go_skip
        go_ret
        exact ⟨rfl, HW.out⟩
    by_cases q8 : v = 0#64
    · skip
      have q8b : (v != 0#64) = false := by rw [q8]; rfl
      have q7b : (at_ != 1) = true := by rw [bne_iff_ne]; exact q7
      clear q8 q7
      by_cases hle : xs.length = ys.length
      · skip
        have KSM := Lib.hid (fun (W : World) h h2 => rSame_any xs ys A B ac bc W h h2 (by omega) hle)
        have KD := Lib.hid (fun (W : World) (C : Option Addr) (q : Nat) h h2 => show Calls Try.prog 38 #[.slice A xs.length ac, .slice C (diffK xs ys ys.length).length q] W (fun r w' => (∃ D d, r = .returned (.slice D ys.length d) ∧ OwnU w' W.heap.size D ys d) ∧ Below W.heap.size W w') by
          have hdl := diffK_len xs ys ys.length
          have k := rDo_any xs A ac (diffK xs ys ys.length) C q W h (by omega) h2 (by omega) (fun x hx => by
            unfold diffK at hx
            rw [List.mem_map] at hx
            obtain ⟨i, hi, rfl⟩ := hx
            have := List.mem_range.1 (List.mem_filter.1 hi).1
            simp only
            omega)
          rw [doW_all xs ys hle, hle] at k
          rw [hle]
          exact k)
        have KSA := Lib.hid (fun (W : World) (D : Option Addr) (d : Nat) h h2 => same1_any ys ys D B d bc W h h2 (by unfold maxLen; omega) (by unfold maxLen; omega))
        rw [beq_self_eq_true] at KSA
        have hee : ((xs.length : Int) == (ys.length : Int)) = true := by rw [beq_iff_eq]; omega
        generalize diffK xs ys ys.length = dk at *
        clear hle
        go_wp2_with fail
        refine (KSM.out _ HX.out HY.out).mono ?_
        rintro e w4 ⟨⟨C, q, rfl, ho⟩, hb⟩
        have HC := Lib.hid ho
        clear ho
        have HW := Lib.hid (HW.out.trans (hb.mono HW.out.size))
        have HAX := Lib.hid (heap_below HAX.out hb)
        have HL := Lib.hid (HL.out.below hb)
        have HR := Lib.hid (HR.out.below hb)
        have HX := Lib.hid (HX.out.below hb)
        have HY := Lib.hid (HY.out.below hb)
        have HP := Lib.hid (HP.out.below hb)
        clear hb
        go_wp2_with fail
        refine (KD.out _ C q HX.out HC.out).mono ?_
        rintro e w5 ⟨⟨D, d9, rfl, ho⟩, hb⟩
        have HD := Lib.hid ho.rd
        clear ho
        have HW := Lib.hid (HW.out.trans (hb.mono HW.out.size))
        have HAX := Lib.hid (heap_below HAX.out hb)
        have HL := Lib.hid (HL.out.below hb)
        have HR := Lib.hid (HR.out.below hb)
        have HX := Lib.hid (HX.out.below hb)
        have HY := Lib.hid (HY.out.below hb)
        have HP := Lib.hid (HP.out.below hb)
        have HC := Lib.hid (HC.out.below hb)
        clear hb
        go_wp2_with fail
        refine (KSA.out _ D d9 HD.out HY.out).mono ?_
        rintro e w9 ⟨rfl, hd⟩
        have HW := Lib.hid (HW.out.trans ((hd.below _).mono HW.out.size))
        go_wp2
        go_ret
        exact ⟨rfl, HW.out⟩
      · skip
        have KSM := Lib.hid (fun (W : World) => rSame_no xs ys A B ac bc W hle)
        have hee : ((xs.length : Int) == (ys.length : Int)) = false := by rw [beq_eq_false_iff_ne]; omega
        clear hle
        go_wp2_with fail
        refine (KSM.out _).mono ?_
        rintro e w9 ⟨rfl, rfl⟩
        go_wp2_with go_skip
        go_ret
        exact ⟨rfl, HW.out⟩
    have q8b : (v != 0#64) = true := by rw [bne_iff_ne]; exact q8
    have hv0 := Lib.hid q8
    clear q8
    obtain ⟨k, rfl⟩ := Int.eq_ofNat_of_zero_le (show 0 ≤ at_ by omega)
    have hk : k < 3 + 2 * ws.length := by omega
    have hk1 := Lib.hid (show k ≠ 1 by omega)
    have q7b : ((k : Int) != 1) = true := by rw [bne_iff_ne]; omega
    have q9 : (k : Int) < 3 + 2 * (ws.length : Int) := by omega
    clear q7
    go_wp2_with (first | go_skip | (at_builtin; refine stop_ ?_))
    have ho_ := OwnU.lit w1 w1.heap.size [] (Nat.le_refl _) (by decide)
    have hb_ : Below w1.heap.size w1 (w1.alloc (.cells #[] 22)) := (Below.refl _ _).alloc (Nat.le_refl _) _
    refine appU (.tmp 91) (.tmp 92) rfl rfl w1.heap.size (some ⟨w1.heap.size, 0, none⟩) [] 0 0 rfl rfl ho_ BP _ _ dP rfl HRL.out.symm (HP.out.below hb_) (by have := HRL.out; simp; omega) (by simp) ?_
    intro B7 zs7 d7 w7 hz7 hown7 hg7 _
    rw [List.nil_append] at hz7
    subst hz7
    have hb7 := below_app hb_ ho_ hg7 (by simp) (Nat.le_refl _)
    have HO7 := Lib.hid hown7
    have HB7 := Lib.hid hb7
    have hs7 := hb7.size
    clear ho_ hb_ hg7 hown7 hb7
    obtain ⟨g7, rfl, hg7a, hg7b⟩ := HO7.out.form (by rw [HRL.out]; omega)
    have hkl : k < zs7.length := by rw [HRL.out]; exact hk
    have hc7 := HO7.out.cellAt k hkl
    have hf7 := HO7.out.frozenAt k
    have HS7 := Lib.hid (HO7.out.stored k (zs7[k] ^^^ v))
    have hcap7 := HO7.out.cap
    have hb := HB7.out.setCell (p := ⟨g7, k, none⟩) hg7a (U (zs7[k] ^^^ v))
    have HK := Lib.hid (fun (W : World) (h : RdU W (some ⟨g7, 0, none⟩) (zs7.set k (zs7[k] ^^^ v))) => KN.out W (some ⟨g7, 0, none⟩) d7 k hkl hk1.out hv0.out _ rfl h (by rw [List.length_set]; exact hcap7.1) hcap7.2)
    rw [List.length_set, HRL.out] at HK
    rw [HRL.out] at hcap7
    have HRD := Lib.hid HS7.out.rd
    generalize zs7[k] = z7 at *
    skip
    clear HO7 HB7 hs7 hkl HS7
    have HW := Lib.hid (HW.out.trans (hb.mono HW.out.size))
    have HAX := Lib.hid (heap_below HAX.out hb)
    have HL := Lib.hid (HL.out.below hb)
    have HR := Lib.hid (HR.out.below hb)
    have HX := Lib.hid (HX.out.below hb)
    have HY := Lib.hid (HY.out.below hb)
    have HP := Lib.hid (HP.out.below hb)
    clear hb
    unfold Stop
    rw [HRL.out]
    go_wp2_with fail
    refine (HK.out _ HRD.out).mono ?_
    rintro e w4 ⟨⟨D9, d9, rfl⟩, hb⟩
    have HW := Lib.hid (HW.out.trans (hb.mono HW.out.size))
    have HAX := Lib.hid (heap_below HAX.out hb)
    have HL := Lib.hid (HL.out.below hb)
    have HR := Lib.hid (HR.out.below hb)
    have HX := Lib.hid (HX.out.below hb)
    have HY := Lib.hid (HY.out.below hb)
    have HP := Lib.hid (HP.out.below hb)
    clear hb
    have hba : Below w4.heap.size w4 (w4.alloc (.cells #[U 0#64, .slice D9 0 d9] 25)) := (Below.refl _ _).alloc (Nat.le_refl _) _
    have HW := Lib.hid (HW.out.trans (hba.mono HW.out.size))
    have HAX := Lib.hid (heap_below HAX.out hba)
    have HL := Lib.hid (HL.out.below hba)
    have HR := Lib.hid (HR.out.below hba)
    have HX := Lib.hid (HX.out.below hba)
    have HY := Lib.hid (HY.out.below hba)
    have HP := Lib.hid (HP.out.below hba)
    clear hba
    by_cases hle : xs.length = ys.length
    · skip
      have KSM := Lib.hid (fun (W : World) h h2 => rSame_any xs ys A B ac bc W h h2 (by omega) hle)
      have KD := Lib.hid (fun (W : World) (C : Option Addr) (q : Nat) h h2 => show Calls Try.prog 38 #[.slice A xs.length ac, .slice C (diffK xs ys ys.length).length q] W (fun r w' => (∃ D d, r = .returned (.slice D ys.length d) ∧ OwnU w' W.heap.size D ys d) ∧ Below W.heap.size W w') by
        have hdl := diffK_len xs ys ys.length
        have k := rDo_any xs A ac (diffK xs ys ys.length) C q W h (by omega) h2 (by omega) (fun x hx => by
          unfold diffK at hx
          rw [List.mem_map] at hx
          obtain ⟨i, hi, rfl⟩ := hx
          have := List.mem_range.1 (List.mem_filter.1 hi).1
          simp only
          omega)
        rw [doW_all xs ys hle, hle] at k
        rw [hle]
        exact k)
      have KSA := Lib.hid (fun (W : World) (D : Option Addr) (d : Nat) h h2 => same1_any ys ys D B d bc W h h2 (by unfold maxLen; omega) (by unfold maxLen; omega))
      rw [beq_self_eq_true] at KSA
      have hee : ((xs.length : Int) == (ys.length : Int)) = true := by rw [beq_iff_eq]; omega
      generalize diffK xs ys ys.length = dk at *
      clear hle
      go_wp2_with fail
      refine (KSM.out _ HX.out HY.out).mono ?_
      rintro e w5 ⟨⟨C, q, rfl, ho⟩, hb⟩
      have HC := Lib.hid ho
      clear ho
      have HW := Lib.hid (HW.out.trans (hb.mono HW.out.size))
      have HAX := Lib.hid (heap_below HAX.out hb)
      have HL := Lib.hid (HL.out.below hb)
      have HR := Lib.hid (HR.out.below hb)
      have HX := Lib.hid (HX.out.below hb)
      have HY := Lib.hid (HY.out.below hb)
      have HP := Lib.hid (HP.out.below hb)
      clear hb
      go_wp2_with fail
      refine (KD.out _ C q HX.out HC.out).mono ?_
      rintro e w6 ⟨⟨D, d9, rfl, ho⟩, hb⟩
      have HD := Lib.hid ho.rd
      clear ho
      have HW := Lib.hid (HW.out.trans (hb.mono HW.out.size))
      have HAX := Lib.hid (heap_below HAX.out hb)
      have HL := Lib.hid (HL.out.below hb)
      have HR := Lib.hid (HR.out.below hb)
      have HX := Lib.hid (HX.out.below hb)
      have HY := Lib.hid (HY.out.below hb)
      have HP := Lib.hid (HP.out.below hb)
      have HC := Lib.hid (HC.out.below hb)
      clear hb
      go_wp2_with fail
      refine (KSA.out _ D d9 HD.out HY.out).mono ?_
      rintro e w9 ⟨rfl, hd⟩
      have HW := Lib.hid (HW.out.trans ((hd.below _).mono HW.out.size))
      go_wp2
      go_ret
      exact ⟨rfl, HW.out⟩
    · skip
      have KSM := Lib.hid (fun (W : World) => rSame_no xs ys A B ac bc W hle)
      have hee : ((xs.length : Int) == (ys.length : Int)) = false := by rw [beq_eq_false_iff_ne]; omega
      clear hle
      go_wp2_with fail
      refine (KSM.out _).mono ?_
      rintro e w9 ⟨rfl, rfl⟩
      go_wp2_with go_skip
      go_ret
      exact ⟨rfl, HW.out⟩
end Go.Proofs.Ytgkojedgamglgaa
