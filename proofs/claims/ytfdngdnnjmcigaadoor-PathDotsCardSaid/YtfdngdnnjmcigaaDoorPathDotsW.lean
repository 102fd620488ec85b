/- The walk of PathDots. Conditions: the slice can be read. -/
import Derived.Test.YtfdngdnnjmcigaaDoorPathPlain5
import Derived.Test.YtfdngdnnjmcigaaDoorPathPartsW
import Derived.Test.YtfdngdnnjmcigaaDoorDotTwo
namespace Go.Proofs.YtfdngdnnjmcigaaDoor
open Go.RowKit
set_option linter.unusedVariables false
set_option linter.unusedSimpArgs false
theorem stab_true {R : World → World → Prop} : Stab R (fun _ _ => True) := fun _ _ _ h _ => h
def SlQ : Fact := fun v _ => ∃ q d, v = .slice (some ⟨q, d, none⟩) 1 1 ∧ True
theorem stab_slq {R : World → World → Prop} : Stab R SlQ := fun _ _ _ h _ => h
theorem joinB_len (l : List ByteArray) : (joinB l).size = (joinC l).length := joinB_size l
set_option maxHeartbeats 8000000 in
set_option maxRecDepth 100000 in
theorem PathDots_walk (l : List ByteArray) (A : Option Addr) (c : Nat) (z : Int) (up : ByteArray) (w : World) (hr : RdS w A l) (hc : l.length ≤ c) (hm : c ≤ maxLen) (hz : -9223372036854775808 ≤ z ∧ z ≤ 9223372036854775807) :
    Calls Tryd.prog 4 #[.slice A l.length c, .int .i64 z, .string up] w fun e w' => e = .returned (.bool true) ∧ Below w.heap.size w w' := by
  unfold maxLen at hm
  have KA := Lib.hid (awake16 w)
  have KNU := Lib.hid (fun W => pName_any up W)
  by_cases h6 : (6 : Int) < l.length
  · skip
    go_enter Tryd.func4, Tryd.ntmps4
    go_wp2_with fail
    refine KA.out.mono ?_
    rintro e wb ⟨rfl, hb1⟩
    go_wp2
    all_goals go_ret
    all_goals exact ⟨rfl, hb1⟩
  have k1 : (l.length : Int) ≤ 6 := by omega
  by_cases hz0 : z < 0
  · skip
    go_enter Tryd.func4, Tryd.ntmps4
    go_wp2_with fail
    refine KA.out.mono ?_
    rintro e wb ⟨rfl, hb1⟩
    go_wp2
    all_goals go_ret
    all_goals exact ⟨rfl, hb1⟩
  have k3 : (0 : Int) ≤ z := by omega
  by_cases hz1 : (l.length : Int) < z
  · skip
    go_enter Tryd.func4, Tryd.ntmps4
    go_wp2_with fail
    refine KA.out.mono ?_
    rintro e wb ⟨rfl, hb1⟩
    go_wp2
    all_goals go_ret
    all_goals exact ⟨rfl, hb1⟩
  obtain ⟨t, rfl⟩ : ∃ t : Nat, z = (t : Int) := ⟨z.toNat, by omega⟩
  cases hU : nameOk up with
  | false =>
    rw [hU] at KNU
    go_enter Tryd.func4, Tryd.ntmps4
    go_wp2_with fail
    refine KA.out.mono ?_
    rintro e wb ⟨rfl, hb1⟩
    go_wp2_with fail
    refine (KNU.out _).mono ?_
    rintro e w2 ⟨rfl, hw⟩
    subst hw
    go_wp2
    all_goals go_ret
    all_goals exact ⟨rfl, hb1⟩
  | true =>
    rw [hU] at KNU
    have HR := Lib.hid hr
    clear hr
    have dz1 : decide ((6 : Int) < l.length) = false := decide_eq_false (by omega)
    have dz2 : decide ((t : Int) < 0) = false := decide_eq_false (by omega)
    have dz3 : decide ((l.length : Int) < (t : Int)) = false := decide_eq_false (by omega)
    have dz4 : decide (l.length < t) = false := decide_eq_false (by omega)
    have HK := Lib.hid (show l.length ≤ 6 ∧ t ≤ l.length by omega)
    clear hz1 hz0 h6 k1 k3 hz
    go_enter Tryd.func4, Tryd.ntmps4
    go_wp2_with fail
    refine KA.out.mono ?_
    rintro e w0 ⟨rfl, hb1⟩
    have HB1 := Lib.hid hb1
    have HR1 := Lib.hid (HR.out.below hb1)
    clear hb1 KA
    go_wp2_with fail
    refine (KNU.out _).mono ?_
    rintro e wb ⟨rfl, hw⟩
    subst hw
    clear KNU
    go_wp2
    go_loopw [7] (fun i wr => ∃ k : Nat, k ≤ l.length ∧ i = .int .i64 k ∧ Go.RowKit.Hid (∀ p ∈ l.take k, nameOk p = true) ∧ wb = wr) (fun i _ => l.length - (intOf i).toNat)
    case atStart => exact ⟨0, Nat.zero_le _, rfl, Lib.hid (by simp), rfl⟩
    case round =>
      obtain ⟨k, hk, rfl, hall, rfl⟩ := hrel
      by_cases hlt : k < l.length
      · obtain ⟨b, off, rfl, _, hcq⟩ := HR1.out.at_ hlt
        have HT := Lib.hid (show l.take (k + 1) = l.take k ++ [l[k]] from List.take_succ_eq_append_getElem hlt)
        generalize l[k] = x at *
        have e1 : IntKind.i64.wrap ((k : Int) + 1) = (k : Int) + 1 := IntWalk.i64_in _ (by omega)
        cases hN : nameOk x with
        | true =>
          have KN := Lib.hid (show ∀ W : World, Calls Tryd.prog 12 #[.string x] W fun e w' => e = .returned (.bool true) ∧ w' = W from fun W => by have h := pName_any x W; rw [hN] at h; exact h)
          have HA2 := Lib.hid (show ∀ p ∈ l.take (k + 1), nameOk p = true by
            rw [HT.out]; intro p hp
            rcases List.mem_append.1 hp with hp | hp
            · exact hall.out p hp
            · rw [List.mem_singleton.1 hp]; exact hN)
          go_wp2_with fail
          refine (KN.out _).mono ?_
          rintro e w2 ⟨rfl, hw⟩
          subst hw
          go_wp2
          go_roundw
          case rel => exact ⟨k + 1, by omega, by go_num, Lib.hid HA2.out, by first | rfl | trivial⟩
          case measure => first | (simp [intOf]; done) | (simp [intOf]; omega)
        | false =>
          have KN := Lib.hid (show ∀ W : World, Calls Tryd.prog 12 #[.string x] W fun e w' => e = .returned (.bool false) ∧ w' = W from fun W => by have h := pName_any x W; rw [hN] at h; exact h)
          go_wp2_with fail
          refine (KN.out _).mono ?_
          rintro e w2 ⟨rfl, hw⟩
          subst hw
          go_wp2
          go_ret
          exact ⟨rfl, HB1.out⟩
      · obtain rfl : k = l.length := by omega
        rw [List.take_length] at hall
        obtain ⟨hl6, htl⟩ := HK.out
        obtain ⟨hDA, hDB, hs0, hs1, hs2⟩ := dots_law l hl6 hall.out t up hU
        have HDA := Lib.hid hDA
        have HDB := Lib.hid hDB
        have HS0 := Lib.hid hs0
        have HS1 := Lib.hid hs1
        have HS2 := Lib.hid hs2
        rw [← insT_all l t _ htl] at HDA HDB HS1 HS2
        clear hDA hDB hs0 hs1 hs2 hall hU hlt
        obtain ⟨xa, hxa⟩ : ∃ q : List ByteArray, ([⟨#[46]⟩, ⟨#[]⟩] : List ByteArray) = q := ⟨_, rfl⟩
        obtain ⟨xb, hxb⟩ : ∃ q : List ByteArray, ([up, ⟨#[46, 46]⟩] : List ByteArray) = q := ⟨_, rfl⟩
        rw [hxa] at HDA HS1
        rw [hxb] at HDB HS2
        have HXA := Lib.hid hxa
        have HXB := Lib.hid hxb
        clear hxa hxb
        go_wp2
        go_loopw [8, 9, 10] (fun va vb i wr => ∃ (k : Nat) (A1 : Option Addr) (c1 : Nat) (B1 : Option Addr) (d1 : Nat), k ≤ l.length + 1 ∧ i = .int .i64 k ∧ va = .slice A1 (insT l t xa k).length c1 ∧ vb = .slice B1 (insT l t xb k).length d1 ∧ Two2 wr wb.heap.size A1 c1 (insT l t xa k) B1 d1 (insT l t xb k) ∧ Below wb.heap.size wb wr) (fun _ _ i _ => l.length + 1 - (intOf i).toNat)
        case atStart =>
          refine ⟨0, none, 0, none, 0, Nat.zero_le _, rfl, ?_, ?_, ?_, Below.refl _ _⟩
          · rw [insT_zero]; rfl
          · rw [insT_zero]; rfl
          · rw [insT_zero, insT_zero]; exact Two2.nil _ _
        case round =>
          obtain ⟨k, A1, c1, B1, d1, hk, rfl, rfl, rfl, htw, hbw⟩ := hrel
          have HT := Lib.hid htw
          have HB := Lib.hid hbw
          have HLA := Lib.hid (insT_len l t xa k)
          have HLB := Lib.hid (insT_len l t xb k)
          rw [← HXA.out] at HLA
          rw [← HXB.out] at HLB
          rw [HXA.out] at HLA
          rw [HXB.out] at HLB
          have hxal : xa.length = 2 := by rw [← HXA.out]; rfl
          have hxbl : xb.length = 2 := by rw [← HXB.out]; rfl
          clear htw hbw
          by_cases hkl : k ≤ l.length
          rotate_left
          · obtain rfl : k = l.length + 1 := by omega
            have KJ0 := Lib.hid (fun W (h : RdS W A l) => pJoin_any A l c W h (by omega) (by have := HS0.out; omega))
            have KJA := Lib.hid (fun W (h : RdS W A1 (insT l t xa (l.length + 1))) => pJoin_any A1 (insT l t xa (l.length + 1)) c1 W h (by have := HLA.out; omega) (by have := HS1.out; omega))
            have KJB := Lib.hid (fun W (h : RdS W B1 (insT l t xb (l.length + 1))) => pJoin_any B1 (insT l t xb (l.length + 1)) d1 W h (by have := HLB.out; omega) (by have := HS2.out; omega))
            have hj0 : (⟨#[47]⟩ : ByteArray).size + (joinB l).size ≤ 140737488355328 := by rw [joinB_size]; have := HS0.out; show 1 + _ ≤ _; omega
            have hj1 : (⟨#[47]⟩ : ByteArray).size + (joinB (insT l t xa (l.length + 1))).size ≤ 140737488355328 := by rw [joinB_size]; have := HS1.out; show 1 + _ ≤ _; omega
            have hj2 : (⟨#[47]⟩ : ByteArray).size + (joinB (insT l t xb (l.length + 1))).size ≤ 140737488355328 := by rw [joinB_size]; have := HS2.out; show 1 + _ ≤ _; omega
            have KC0 := Lib.hid (fun W => pClean_any ((⟨#[47]⟩ : ByteArray) ++ joinB l) W)
            have KCA := Lib.hid (fun W => pClean_any ((⟨#[47]⟩ : ByteArray) ++ joinB (insT l t xa (l.length + 1))) W)
            have KCB := Lib.hid (fun W => pClean_any ((⟨#[47]⟩ : ByteArray) ++ joinB (insT l t xb (l.length + 1))) W)
            rw [HDA.out] at KCA
            rw [HDB.out] at KCB
            obtain ⟨_, _, hA, hra, _, _⟩ := OwnS.form HT.out.a
            obtain ⟨_, _, hB, hrb, _, _⟩ := OwnS.form HT.out.b
            injection hA with hA1 _ hA2
            injection hB with hB1 _ hB2
            subst hA1 hA2 hB1 hB2
            have HRA := Lib.hid hra
            have HRB := Lib.hid hrb
            have HR1 := Lib.hid (HR1.out.below HB.out)
            have HW := Lib.hid (HB1.out.trans (HB.out.mono HB1.out.size))
            clear hra hrb HT HB HDA HDB HS0 HS1 HS2
            generalize insT l t xa (l.length + 1) = la at *
            generalize insT l t xb (l.length + 1) = lb at *
            generalize joinB l = j0 at *
            generalize joinB la = j1 at *
            generalize joinB lb = j2 at *
            generalize cleanB ((⟨#[47]⟩ : ByteArray) ++ j0) = cl at *
            have hcl : (cl.toList == cl.toList) = true := beq_self_eq_true _
            go_wp2_with fail
            refine (KJ0.out _ HR1.out).mono ?_
            rintro e w3 ⟨rfl, hb⟩
            have HRA := Lib.hid (HRA.out.below hb)
            have HRB := Lib.hid (HRB.out.below hb)
            have HW := Lib.hid (HW.out.trans (hb.mono HW.out.size))
            clear hb
            go_wp2_with fail
            refine (KC0.out _).mono ?_
            rintro e w4 ⟨rfl, hb⟩
            have HRA := Lib.hid (HRA.out.below hb)
            have HRB := Lib.hid (HRB.out.below hb)
            have HW := Lib.hid (HW.out.trans (hb.mono HW.out.size))
            clear hb
            go_wp2_with fail
            refine (KJA.out _ HRA.out).mono ?_
            rintro e w5 ⟨rfl, hb⟩
            have HRB := Lib.hid (HRB.out.below hb)
            have HW := Lib.hid (HW.out.trans (hb.mono HW.out.size))
            clear hb
            go_wp2_with fail
            refine (KCA.out _).mono ?_
            rintro e w6 ⟨rfl, hb⟩
            have HRB := Lib.hid (HRB.out.below hb)
            have HW := Lib.hid (HW.out.trans (hb.mono HW.out.size))
            clear hb
            go_wp2_with fail
            refine (KJB.out _ HRB.out).mono ?_
            rintro e w7 ⟨rfl, hb⟩
            have HW := Lib.hid (HW.out.trans (hb.mono HW.out.size))
            clear hb
            go_wp2_with fail
            refine (KCB.out _).mono ?_
            rintro e w8 ⟨rfl, hb⟩
            have HW := Lib.hid (HW.out.trans (hb.mono HW.out.size))
            clear hb
            go_wp2
            go_ret
            exact ⟨rfl, HW.out⟩
          have e1 : IntKind.i64.wrap ((k : Int) + 1) = (k : Int) + 1 := IntWalk.i64_in _ (by omega)
          have hkl2 : (k : Int) ≤ l.length := by omega
          by_cases hkt : k = t
          · subst hkt
            have hbb : Below wr.heap.size wr (wr.alloc (.cells #[.string ⟨#[46]⟩, .string ⟨#[]⟩] 9)) := (Below.refl _ _).alloc (Nat.le_refl _) _
            have HT1 := Lib.hid (HT.out.below hbb)
            have HBA := Lib.hid (HB.out.alloc HB.out.size (.cells #[.string ⟨#[46]⟩, .string ⟨#[]⟩] 9))
            have hza : wb.heap.size ≤ (wr.alloc (.cells #[.string ⟨#[46]⟩, .string ⟨#[]⟩] 9)).heap.size := by rw [World.size_alloc]; have := HB.out.size; omega
            have HRN := Lib.hid (show RdF Value.string (wr.alloc (.cells #[.string ⟨#[46]⟩, .string ⟨#[]⟩] 9)) (some ⟨wr.heap.size, 0, none⟩) xa by rw [← HXA.out]; exact RdF.new wr ([⟨#[46]⟩, ⟨#[]⟩] : List ByteArray) _)
            clear hbb
            have hlk : ((k : Int) < l.length) ∨ k = l.length := by omega
            go_wp2_with (first | go_skip | (at_builtin; refine stop_ ?_))
            refine appF (f := Value.string) (fun _ => rfl) 24 9 (.string ByteArray.empty) 16 rfl (by decide) (by decide) Tryd.underlying24 infoS (.tmp 53) (.tmp 54) rfl rfl wb.heap.size A1 (insT l k xa k) _ c1 rfl rfl HT1.out.a (some ⟨wr.heap.size, 0, none⟩) xa 2 2 rfl hxal.symm HRN.out (by have := HLA.out; omega) hza ?_
            intro A2 la c2 w3 hla hown hg hloc
            have HLE := Lib.hid hla
            clear hla
            unfold Stop
            have HT2 := Lib.hid (HT1.out.app hown hg hloc)
            have HB2 := Lib.hid (HBA.out.grown hg hza fun q hq => (own_lt HT1.out.a q hq).1)
            clear hown hloc hg HT1 HBA HRN hza
            have hbb : Below w3.heap.size w3 (w3.alloc (.cells #[.string up, .string ⟨#[46, 46]⟩] 9)) := (Below.refl _ _).alloc (Nat.le_refl _) _
            have HT1 := Lib.hid (HT2.out.below hbb)
            have HBA := Lib.hid (HB2.out.alloc HB2.out.size (.cells #[.string up, .string ⟨#[46, 46]⟩] 9))
            have hza : wb.heap.size ≤ (w3.alloc (.cells #[.string up, .string ⟨#[46, 46]⟩] 9)).heap.size := by rw [World.size_alloc]; have := HB2.out.size; omega
            have HRN := Lib.hid (show RdF Value.string (w3.alloc (.cells #[.string up, .string ⟨#[46, 46]⟩] 9)) (some ⟨w3.heap.size, 0, none⟩) xb by rw [← HXB.out]; exact RdF.new w3 ([up, ⟨#[46, 46]⟩] : List ByteArray) _)
            clear hbb
            go_wp2_with (first | go_skip | (at_builtin; refine stop_ ?_))
            refine appF (f := Value.string) (fun _ => rfl) 24 9 (.string ByteArray.empty) 16 rfl (by decide) (by decide) Tryd.underlying24 infoS (.tmp 56) (.tmp 58) rfl rfl wb.heap.size B1 (insT l k xb k) _ d1 rfl rfl HT1.out.b (some ⟨w3.heap.size, 0, none⟩) xb 2 2 rfl hxbl.symm HRN.out (by have := HLB.out; omega) hza ?_
            intro B2 lb d2 w4 hlb hown hg hloc
            have HLF := Lib.hid hlb
            clear hlb
            unfold Stop
            have HT3 := Lib.hid (HT1.out.swap.app hown hg hloc).swap
            have HB3 := Lib.hid (HBA.out.grown hg hza fun q hq => (own_lt HT1.out.b q hq).1)
            clear hown hloc hg HT1 HBA HRN hza HT2 HB2
            have HLA2 := Lib.hid (show la.length ≤ 100 by rw [HLE.out, List.length_append]; have := HLA.out; omega)
            have HLB2 := Lib.hid (show lb.length ≤ 100 by rw [HLF.out, List.length_append]; have := HLB.out; omega)
            by_cases hlt : k < l.length
            · have HNA := Lib.hid (insT_at l k xa hlt)
              have HNB := Lib.hid (insT_at l k xb hlt)
              rw [← HLE.out] at HNA
              rw [← HLF.out] at HNB
              clear HLE HLF
              have hlt2 : (k : Int) < l.length := by omega
              obtain ⟨b, off, rfl, hbl, hcq⟩ := HR1.out.at_ hlt
              have hcq := (HB3.out.cell (p := ⟨b, off + k, none⟩) hbl).trans hcq
              generalize l[k] = x at *
              have hbl2 := Nat.lt_of_lt_of_le hbl (Nat.le_refl _)
              clear HDA HDB HS0 HS1 HS2 HXA HXB
              go_wp2_with fail
              apply wp_region_ja (fun _ _ => True) (fun _ _ _ _ _ => trivial) (fun _ => trivial) (DotJ w4 wb.heap.size A2 c2 la B2 d2 lb x) 96 14 (Eqs _ :: Eqs _ :: Eqs _ :: Eqs _ :: Eqs _ :: SlQ :: (fun _ _ => True) :: Eqs _ :: Eqs _ :: Eqs _ :: Eqs _ :: Eqs _ :: SlQ :: (fun _ _ => True) :: []) (by kernel_rfl) (by rfl) rfl (stab_cons (stab_eq _) (stab_cons (stab_eq _) (stab_cons (stab_eq _) (stab_cons (stab_eq _) (stab_cons (stab_eq _) (stab_cons stab_slq (stab_cons stab_true (stab_cons (stab_eq _) (stab_cons (stab_eq _) (stab_cons (stab_eq _) (stab_cons (stab_eq _) (stab_cons (stab_eq _) (stab_cons stab_slq (stab_cons stab_true stab_nil)))))))))))))) (by kernel_rfl) (by kernel_rfl) (by kernel_rfl) (by kernel_rfl)
              case h0 =>
                exact DotJ.start HT3.out HB3.out.size _
              case hstep =>
                simp only [List.take_succ_cons, List.take_zero]
                refine ⟨?_, ?_⟩
                · -- 0: Go.Op.move (Go.Operand.tmp 8)
                  intro listed a w1 hJ hls hl0 hlw hlc hF hU hsz
                  have e8 : a.eval (.tmp 8) = _ := hU 8 (by kernel_rfl)
                  rw [if_pos (by rfl)]
                  intro K hK
                  clear hF hU hsz
                  obtain ⟨q1, q2, q3⟩ := eval_rest a
                  generalize hρ : a.eval = ρ
                  rw [hρ] at q1 q2 q3 e8
                  clear hρ
                  have u1 := OpUp_value Tryd.prog K
                  have u2 := OpUp_enter Tryd.prog K
                  go_simp
                  exact hK _ _ ((hJ.quiet (by decide) (by decide) _)) trivial rfl
                refine ⟨?_, ?_⟩
                · -- 1: Go.Op.move (Go.Operand.tmp 0)
                  intro listed a w1 hJ hls hl0 hlw hlc hF hU hsz
                  have e0 : a.eval (.tmp 0) = _ := hU 0 (by kernel_rfl)
                  rw [if_pos (by rfl)]
                  intro K hK
                  clear hF hU hsz
                  obtain ⟨q1, q2, q3⟩ := eval_rest a
                  generalize hρ : a.eval = ρ
                  rw [hρ] at q1 q2 q3 e0
                  clear hρ
                  have u1 := OpUp_value Tryd.prog K
                  have u2 := OpUp_enter Tryd.prog K
                  go_simp
                  exact hK _ _ ((hJ.quiet (by decide) (by decide) _)) trivial rfl
                refine ⟨?_, ?_⟩
                · -- 2: Go.Op.move (Go.Operand.tmp 10)
                  intro listed a w1 hJ hls hl0 hlw hlc hF hU hsz
                  have e10 : a.eval (.tmp 10) = _ := hU 10 (by kernel_rfl)
                  rw [if_pos (by rfl)]
                  intro K hK
                  clear hF hU hsz
                  obtain ⟨q1, q2, q3⟩ := eval_rest a
                  generalize hρ : a.eval = ρ
                  rw [hρ] at q1 q2 q3 e10
                  clear hρ
                  have u1 := OpUp_value Tryd.prog K
                  have u2 := OpUp_enter Tryd.prog K
                  go_simp
                  exact hK _ _ ((hJ.quiet (by decide) (by decide) _)) trivial rfl
                refine ⟨?_, ?_⟩
                · -- 3: Go.Op.indexAddr 24 (Go.Operand.tmp 65) (Go.Operand.tmp 66)
                  intro listed a w1 hJ hls hl0 hlw hlc hF hU hsz
                  have e65 : a.eval (.tmp 65) = _ := hF 1 _ _ rfl rfl (by kernel_rfl)
                  have e66 : a.eval (.tmp 66) = _ := hF 2 _ _ rfl rfl (by kernel_rfl)
                  rw [if_pos (by rfl)]
                  intro K hK
                  clear hF hU hsz
                  obtain ⟨q1, q2, q3⟩ := eval_rest a
                  generalize hρ : a.eval = ρ
                  rw [hρ] at q1 q2 q3 e65 e66
                  clear hρ
                  have u1 := OpUp_value Tryd.prog K
                  have u2 := OpUp_enter Tryd.prog K
                  go_simp
                  exact hK _ _ ((hJ.quiet (by decide) (by decide) _)) trivial rfl
                refine ⟨?_, ?_⟩
                · -- 4: Go.Op.load 9 (Go.Operand.tmp 67)
                  intro listed a w1 hJ hls hl0 hlw hlc hF hU hsz
                  have e67 : a.eval (.tmp 67) = _ := hF 3 _ _ rfl rfl (by kernel_rfl)
                  rw [if_pos (by rfl)]
                  intro K hK
                  clear hF hU hsz
                  have hcq_ := (hJ.hb.cell (p := ⟨b, off + k, none⟩) hbl).trans hcq
                  obtain ⟨q1, q2, q3⟩ := eval_rest a
                  generalize hρ : a.eval = ρ
                  rw [hρ] at q1 q2 q3 e67
                  clear hρ
                  have u1 := OpUp_value Tryd.prog K
                  have u2 := OpUp_enter Tryd.prog K
                  go_simp
                  exact hK _ _ ((hJ.quiet (by decide) (by decide) _)) trivial rfl
                refine ⟨?_, ?_⟩
                · -- 5: Go.Op.buildSlice 24 1 #[(0, Go.Operand.tmp 68)]
                  intro listed a w1 hJ hls hl0 hlw hlc hF hU hsz
                  have e68 : a.eval (.tmp 68) = _ := hF 4 _ _ rfl rfl (by kernel_rfl)
                  rw [if_pos (by rfl)]
                  intro K hK
                  clear hF hU
                  have hsz9 : 69 < a.tmps.size := by rw [hsz]; simp only [List.size_toArray, List.length_cons, List.length_nil]; omega
                  obtain ⟨q1, q2, q3⟩ := eval_rest a
                  generalize hρ : a.eval = ρ
                  rw [hρ] at q1 q2 q3 e68
                  clear hρ
                  have u1 := OpUp_value Tryd.prog K
                  have u2 := OpUp_enter Tryd.prog K
                  go_simp
                  exact hK _ _ (hJ.made5 hsz9) trivial ⟨_, _, rfl, trivial⟩
                refine ⟨?_, ?_⟩
                · -- 6: Go.Op.call { callee := Go.Callee.builtin Go.Builtin.append, args := #[Go.Operand
                  intro listed a w1 hJ hls hl0 hlw hlc hF hU hsz
                  have e64 : a.eval (.tmp 64) = _ := hF 0 _ _ rfl rfl (by kernel_rfl)
                  have e69 := hF 5 _ _ rfl rfl (by kernel_rfl)
                  obtain ⟨B69, d69, e69, r69⟩ := e69
                  have e69 : a.eval (.tmp 69) = _ := e69
                  rw [if_pos (by rfl)]
                  intro K hK
                  clear hF hU
                  have hsz9 : 70 < a.tmps.size := by rw [hsz]; simp only [List.size_toArray, List.length_cons, List.length_nil]; omega
                  have h9_ := e69
                  rw [Act.eval_getD] at h9_
                  obtain ⟨q1, q2, q3⟩ := eval_rest a
                  generalize hρ : a.eval = ρ
                  rw [hρ] at q1 q2 q3 e64 e69
                  clear hρ
                  have u1 := OpUp_value Tryd.prog K
                  have u2 := OpUp_enter Tryd.prog K
                  have hl0 : listed.getD 6 false = false := hl0
                  have hlb := hlw 5 (by kernel_rfl)
                  obtain ⟨i9, hi9, hz0, hz1, hz2⟩ := info_parts infoS
                  have hJ0 := hJ
                  obtain ⟨A8, c8, B8, d8, h8, hb8, hs8, g1, g2, g3, g4, g5, g6⟩ := hJ
                  obtain ⟨e81, e82⟩ := g2 hl0
                  rw [hl0] at h8
                  simp only [Bool.false_eq_true, if_false] at h8
                  rw [e81, e82] at h8
                  obtain ⟨q9, hq1, hq2, hq3, hq4⟩ := g5 hlb
                  rw [hq1] at h9_
                  injection h9_ with h91; injection h91 with h92; injection h92 with h93 h94
                  subst h93; subst h94
                  refine OpUp_app (.tmp 64) (.tmp 69) 24 rfl wb.heap.size 9 i9 _ 1 16 Tryd.underlying24 hi9 hz0 hz1 hz2 rfl (by omega) (by omega) A2 la.length c2 _ e64 h8.a (some ⟨_, 0, none⟩) 1 1 [.string x] e69 rfl (.inr ⟨_, 0, rfl, ?hcell⟩) (by intro u hu; rw [List.mem_singleton.1 hu]; rfl) (by have := HLA2.out; omega) hs8 ?_
                  case hcell =>
                    intro k hk
                    obtain rfl : k = 0 := by simpa using hk
                    exact Lib.cell_of_heap hq2 0
                  intro A9 c9 w9 k1 k2 k3
                  refine hK _ _ (hJ0.app6 hl0 hls hsz9 ?_ k2 k3) trivial trivial
                  unfold OwnS; rw [List.length_append, List.map_append]; exact k1
                refine ⟨?_, ?_⟩
                · -- 7: Go.Op.move (Go.Operand.tmp 9)
                  intro listed a w1 hJ hls hl0 hlw hlc hF hU hsz
                  have e9 : a.eval (.tmp 9) = _ := hU 9 (by kernel_rfl)
                  rw [if_pos (by rfl)]
                  intro K hK
                  clear hF hU hsz
                  obtain ⟨q1, q2, q3⟩ := eval_rest a
                  generalize hρ : a.eval = ρ
                  rw [hρ] at q1 q2 q3 e9
                  clear hρ
                  have u1 := OpUp_value Tryd.prog K
                  have u2 := OpUp_enter Tryd.prog K
                  go_simp
                  exact hK _ _ ((hJ.quiet (by decide) (by decide) _)) trivial rfl
                refine ⟨?_, ?_⟩
                · -- 8: Go.Op.move (Go.Operand.tmp 0)
                  intro listed a w1 hJ hls hl0 hlw hlc hF hU hsz
                  have e0 : a.eval (.tmp 0) = _ := hU 0 (by kernel_rfl)
                  rw [if_pos (by rfl)]
                  intro K hK
                  clear hF hU hsz
                  obtain ⟨q1, q2, q3⟩ := eval_rest a
                  generalize hρ : a.eval = ρ
                  rw [hρ] at q1 q2 q3 e0
                  clear hρ
                  have u1 := OpUp_value Tryd.prog K
                  have u2 := OpUp_enter Tryd.prog K
                  go_simp
                  exact hK _ _ ((hJ.quiet (by decide) (by decide) _)) trivial rfl
                refine ⟨?_, ?_⟩
                · -- 9: Go.Op.move (Go.Operand.tmp 10)
                  intro listed a w1 hJ hls hl0 hlw hlc hF hU hsz
                  have e10 : a.eval (.tmp 10) = _ := hU 10 (by kernel_rfl)
                  rw [if_pos (by rfl)]
                  intro K hK
                  clear hF hU hsz
                  obtain ⟨q1, q2, q3⟩ := eval_rest a
                  generalize hρ : a.eval = ρ
                  rw [hρ] at q1 q2 q3 e10
                  clear hρ
                  have u1 := OpUp_value Tryd.prog K
                  have u2 := OpUp_enter Tryd.prog K
                  go_simp
                  exact hK _ _ ((hJ.quiet (by decide) (by decide) _)) trivial rfl
                refine ⟨?_, ?_⟩
                · -- 10: Go.Op.indexAddr 24 (Go.Operand.tmp 72) (Go.Operand.tmp 73)
                  intro listed a w1 hJ hls hl0 hlw hlc hF hU hsz
                  have e72 : a.eval (.tmp 72) = _ := hF 8 _ _ rfl rfl (by kernel_rfl)
                  have e73 : a.eval (.tmp 73) = _ := hF 9 _ _ rfl rfl (by kernel_rfl)
                  rw [if_pos (by rfl)]
                  intro K hK
                  clear hF hU hsz
                  obtain ⟨q1, q2, q3⟩ := eval_rest a
                  generalize hρ : a.eval = ρ
                  rw [hρ] at q1 q2 q3 e72 e73
                  clear hρ
                  have u1 := OpUp_value Tryd.prog K
                  have u2 := OpUp_enter Tryd.prog K
                  go_simp
                  exact hK _ _ ((hJ.quiet (by decide) (by decide) _)) trivial rfl
                refine ⟨?_, ?_⟩
                · -- 11: Go.Op.load 9 (Go.Operand.tmp 74)
                  intro listed a w1 hJ hls hl0 hlw hlc hF hU hsz
                  have e74 : a.eval (.tmp 74) = _ := hF 10 _ _ rfl rfl (by kernel_rfl)
                  rw [if_pos (by rfl)]
                  intro K hK
                  clear hF hU hsz
                  have hcq_ := (hJ.hb.cell (p := ⟨b, off + k, none⟩) hbl).trans hcq
                  obtain ⟨q1, q2, q3⟩ := eval_rest a
                  generalize hρ : a.eval = ρ
                  rw [hρ] at q1 q2 q3 e74
                  clear hρ
                  have u1 := OpUp_value Tryd.prog K
                  have u2 := OpUp_enter Tryd.prog K
                  go_simp
                  exact hK _ _ ((hJ.quiet (by decide) (by decide) _)) trivial rfl
                refine ⟨?_, ?_⟩
                · -- 12: Go.Op.buildSlice 24 1 #[(0, Go.Operand.tmp 75)]
                  intro listed a w1 hJ hls hl0 hlw hlc hF hU hsz
                  have e75 : a.eval (.tmp 75) = _ := hF 11 _ _ rfl rfl (by kernel_rfl)
                  rw [if_pos (by rfl)]
                  intro K hK
                  clear hF hU
                  have hsz9 : 76 < a.tmps.size := by rw [hsz]; simp only [List.size_toArray, List.length_cons, List.length_nil]; omega
                  obtain ⟨q1, q2, q3⟩ := eval_rest a
                  generalize hρ : a.eval = ρ
                  rw [hρ] at q1 q2 q3 e75
                  clear hρ
                  have u1 := OpUp_value Tryd.prog K
                  have u2 := OpUp_enter Tryd.prog K
                  go_simp
                  exact hK _ _ (hJ.made12 hsz9) trivial ⟨_, _, rfl, trivial⟩
                refine ⟨?_, ?_⟩
                · -- 13: Go.Op.call { callee := Go.Callee.builtin Go.Builtin.append, args := #[Go.Operand
                  intro listed a w1 hJ hls hl0 hlw hlc hF hU hsz
                  have e71 : a.eval (.tmp 71) = _ := hF 7 _ _ rfl rfl (by kernel_rfl)
                  have e76 := hF 12 _ _ rfl rfl (by kernel_rfl)
                  obtain ⟨B76, d76, e76, r76⟩ := e76
                  have e76 : a.eval (.tmp 76) = _ := e76
                  rw [if_pos (by rfl)]
                  intro K hK
                  clear hF hU
                  have hsz9 : 77 < a.tmps.size := by rw [hsz]; simp only [List.size_toArray, List.length_cons, List.length_nil]; omega
                  have h9_ := e76
                  rw [Act.eval_getD] at h9_
                  obtain ⟨q1, q2, q3⟩ := eval_rest a
                  generalize hρ : a.eval = ρ
                  rw [hρ] at q1 q2 q3 e71 e76
                  clear hρ
                  have u1 := OpUp_value Tryd.prog K
                  have u2 := OpUp_enter Tryd.prog K
                  have hl0 : listed.getD 13 false = false := hl0
                  have hlb := hlw 12 (by kernel_rfl)
                  obtain ⟨i9, hi9, hz0, hz1, hz2⟩ := info_parts infoS
                  have hJ0 := hJ
                  obtain ⟨A8, c8, B8, d8, h8, hb8, hs8, g1, g2, g3, g4, g5, g6⟩ := hJ
                  obtain ⟨e81, e82⟩ := g4 hl0
                  rw [hl0] at h8
                  simp only [Bool.false_eq_true, if_false] at h8
                  rw [e81, e82] at h8
                  obtain ⟨q9, hq1, hq2, hq3, hq4⟩ := g6 hlb
                  rw [hq1] at h9_
                  injection h9_ with h91; injection h91 with h92; injection h92 with h93 h94
                  subst h93; subst h94
                  refine OpUp_app (.tmp 71) (.tmp 76) 24 rfl wb.heap.size 9 i9 _ 1 16 Tryd.underlying24 hi9 hz0 hz1 hz2 rfl (by omega) (by omega) B2 lb.length d2 _ e71 h8.b (some ⟨_, 0, none⟩) 1 1 [.string x] e76 rfl (.inr ⟨_, 0, rfl, ?hcell⟩) (by intro u hu; rw [List.mem_singleton.1 hu]; rfl) (by have := HLB2.out; omega) hs8 ?_
                  case hcell =>
                    intro k hk
                    obtain rfl : k = 0 := by simpa using hk
                    exact Lib.cell_of_heap hq2 0
                  intro A9 c9 w9 k1 k2 k3
                  refine hK _ _ (hJ0.app13 hl0 hls hsz9 ?_ k2 k3) trivial trivial
                  unfold OwnS; rw [List.length_append, List.map_append]; exact k1
                exact trivial
              case hend =>
                intro vs0 w1 listed hJ hl1 hl2 hH0
                obtain ⟨vs1, rfl, hH1⟩ := hH0.eq_
                obtain ⟨vs2, rfl, hH2⟩ := hH1.eq_
                obtain ⟨vs3, rfl, hH3⟩ := hH2.eq_
                obtain ⟨vs4, rfl, hH4⟩ := hH3.eq_
                obtain ⟨vs5, rfl, hH5⟩ := hH4.eq_
                obtain ⟨v5, vs6, rfl, hv5, hH6⟩ := hH5.cons
                obtain ⟨v6, vs7, rfl, hv6, hH7⟩ := hH6.cons
                obtain ⟨vs8, rfl, hH8⟩ := hH7.eq_
                obtain ⟨vs9, rfl, hH9⟩ := hH8.eq_
                obtain ⟨vs10, rfl, hH10⟩ := hH9.eq_
                obtain ⟨vs11, rfl, hH11⟩ := hH10.eq_
                obtain ⟨vs12, rfl, hH12⟩ := hH11.eq_
                obtain ⟨v12, vs13, rfl, hv12, hH13⟩ := hH12.cons
                obtain ⟨v13, vs14, rfl, hv13, hH14⟩ := hH13.cons
                obtain rfl := hH14.nil
                clear hH0 hH1 hH2 hH3 hH4 hH5 hH6 hH7 hH8 hH9 hH10 hH11 hH12 hH13 hH14
                simp only [List.take_succ_cons, List.take_zero, putAll, Act.put, List.setIfInBounds_toArray, List.set_cons_zero, List.set_cons_succ]
                obtain ⟨A6, c6, B6, d6, hT6, hb6, hs6, g1, g2, g3, g4, _, _⟩ := hJ
                have e6 := g1 (hl1 6 (by decide))
                have e13 := g3 (hl1 13 (by decide))
                simp only [List.take_succ_cons, List.take_zero, putAll, Act.put, List.setIfInBounds_toArray, List.set_cons_zero, List.set_cons_succ] at e6 e13
                have e6 : v6 = .slice A6 (la.length + 1) c6 := e6
                have e13 : v13 = .slice B6 (lb.length + 1) d6 := e13
                rw [hl1 6 (by decide), hl1 13 (by decide)] at hT6
                simp only [if_true] at hT6
                subst e6
                subst e13
                obtain ⟨_, _, rfl, _⟩ := hv5
                obtain ⟨_, _, rfl, _⟩ := hv12
                have HT6 := Lib.hid hT6
                rw [← HNA.out, ← HNB.out] at HT6
                have HB6 := Lib.hid (HB3.out.trans hb6)
                have hna : la.length + 1 = (insT l k xa (k + 1)).length := by rw [HNA.out, List.length_append]; rfl
                have hnb : lb.length + 1 = (insT l k xb (k + 1)).length := by rw [HNB.out, List.length_append]; rfl
                rw [hna, hnb]
                clear hT6 hb6 hs6 g1 g2 g3 g4 hl1 hl2 hna hnb
                go_wp2
                go_roundw
                case rel => exact ⟨k + 1, A6, c6, B6, d6, by omega, by go_num, rfl, rfl, HT6.out, HB6.out⟩
                case measure => first | (simp [intOf]; done) | (simp [intOf]; omega)
            · obtain rfl : k = l.length := by omega
              have HNA := Lib.hid (insT_end_at l xa)
              have HNB := Lib.hid (insT_end_at l xb)
              rw [← HLE.out] at HNA
              rw [← HLF.out] at HNB
              rw [← HNA.out, ← HNB.out] at HT3
              rw [← HNA.out, ← HNB.out]
              clear HLE HLF
              clear HNA HNB HDA HDB HS0 HS1 HS2 HXA HXB HLA HLB HLA2 HLB2
              go_wp2
              go_roundw
              case rel => exact ⟨l.length + 1, A2, c2, B2, d2, by omega, by go_num, rfl, rfl, HT3.out, HB3.out⟩
              case measure => first | (simp [intOf]; done) | (simp [intOf]; omega)
          · have hkt2 : ¬ (k : Int) = (t : Int) := by omega
            have hkt3 : ((k : Int) == (t : Int)) = false := by simp; omega
            by_cases hlt : k < l.length
            · have HNA := Lib.hid (insT_off l t xa k hlt hkt)
              have HNB := Lib.hid (insT_off l t xb k hlt hkt)
              have HLA2 := Lib.hid (show (insT l t xa k).length ≤ 100 by have := HLA.out; omega)
              have HLB2 := Lib.hid (show (insT l t xb k).length ≤ 100 by have := HLB.out; omega)
              generalize insT l t xa k = la at *
              generalize insT l t xb k = lb at *
              have hlt2 : (k : Int) < l.length := by omega
              obtain ⟨b, off, rfl, hbl, hcq⟩ := HR1.out.at_ hlt
              have hcq := (HB.out.cell (p := ⟨b, off + k, none⟩) hbl).trans hcq
              generalize l[k] = x at *
              have hbl2 := Nat.lt_of_lt_of_le hbl (Nat.le_refl _)
              clear HDA HDB HS0 HS1 HS2 HXA HXB
              go_wp2_with fail
              apply wp_region_ja (fun _ _ => True) (fun _ _ _ _ _ => trivial) (fun _ => trivial) (DotJ wr wb.heap.size A1 c1 la B1 d1 lb x) 96 14 (Eqs _ :: Eqs _ :: Eqs _ :: Eqs _ :: Eqs _ :: SlQ :: (fun _ _ => True) :: Eqs _ :: Eqs _ :: Eqs _ :: Eqs _ :: Eqs _ :: SlQ :: (fun _ _ => True) :: []) (by kernel_rfl) (by rfl) rfl (stab_cons (stab_eq _) (stab_cons (stab_eq _) (stab_cons (stab_eq _) (stab_cons (stab_eq _) (stab_cons (stab_eq _) (stab_cons stab_slq (stab_cons stab_true (stab_cons (stab_eq _) (stab_cons (stab_eq _) (stab_cons (stab_eq _) (stab_cons (stab_eq _) (stab_cons (stab_eq _) (stab_cons stab_slq (stab_cons stab_true stab_nil)))))))))))))) (by kernel_rfl) (by kernel_rfl) (by kernel_rfl) (by kernel_rfl)
              case h0 =>
                exact DotJ.start HT.out HB.out.size _
              case hstep =>
                simp only [List.take_succ_cons, List.take_zero]
                refine ⟨?_, ?_⟩
                · -- 0: Go.Op.move (Go.Operand.tmp 8)
                  intro listed a w1 hJ hls hl0 hlw hlc hF hU hsz
                  have e8 : a.eval (.tmp 8) = _ := hU 8 (by kernel_rfl)
                  rw [if_pos (by rfl)]
                  intro K hK
                  clear hF hU hsz
                  obtain ⟨q1, q2, q3⟩ := eval_rest a
                  generalize hρ : a.eval = ρ
                  rw [hρ] at q1 q2 q3 e8
                  clear hρ
                  have u1 := OpUp_value Tryd.prog K
                  have u2 := OpUp_enter Tryd.prog K
                  go_simp
                  exact hK _ _ ((hJ.quiet (by decide) (by decide) _)) trivial rfl
                refine ⟨?_, ?_⟩
                · -- 1: Go.Op.move (Go.Operand.tmp 0)
                  intro listed a w1 hJ hls hl0 hlw hlc hF hU hsz
                  have e0 : a.eval (.tmp 0) = _ := hU 0 (by kernel_rfl)
                  rw [if_pos (by rfl)]
                  intro K hK
                  clear hF hU hsz
                  obtain ⟨q1, q2, q3⟩ := eval_rest a
                  generalize hρ : a.eval = ρ
                  rw [hρ] at q1 q2 q3 e0
                  clear hρ
                  have u1 := OpUp_value Tryd.prog K
                  have u2 := OpUp_enter Tryd.prog K
                  go_simp
                  exact hK _ _ ((hJ.quiet (by decide) (by decide) _)) trivial rfl
                refine ⟨?_, ?_⟩
                · -- 2: Go.Op.move (Go.Operand.tmp 10)
                  intro listed a w1 hJ hls hl0 hlw hlc hF hU hsz
                  have e10 : a.eval (.tmp 10) = _ := hU 10 (by kernel_rfl)
                  rw [if_pos (by rfl)]
                  intro K hK
                  clear hF hU hsz
                  obtain ⟨q1, q2, q3⟩ := eval_rest a
                  generalize hρ : a.eval = ρ
                  rw [hρ] at q1 q2 q3 e10
                  clear hρ
                  have u1 := OpUp_value Tryd.prog K
                  have u2 := OpUp_enter Tryd.prog K
                  go_simp
                  exact hK _ _ ((hJ.quiet (by decide) (by decide) _)) trivial rfl
                refine ⟨?_, ?_⟩
                · -- 3: Go.Op.indexAddr 24 (Go.Operand.tmp 65) (Go.Operand.tmp 66)
                  intro listed a w1 hJ hls hl0 hlw hlc hF hU hsz
                  have e65 : a.eval (.tmp 65) = _ := hF 1 _ _ rfl rfl (by kernel_rfl)
                  have e66 : a.eval (.tmp 66) = _ := hF 2 _ _ rfl rfl (by kernel_rfl)
                  rw [if_pos (by rfl)]
                  intro K hK
                  clear hF hU hsz
                  obtain ⟨q1, q2, q3⟩ := eval_rest a
                  generalize hρ : a.eval = ρ
                  rw [hρ] at q1 q2 q3 e65 e66
                  clear hρ
                  have u1 := OpUp_value Tryd.prog K
                  have u2 := OpUp_enter Tryd.prog K
                  go_simp
                  exact hK _ _ ((hJ.quiet (by decide) (by decide) _)) trivial rfl
                refine ⟨?_, ?_⟩
                · -- 4: Go.Op.load 9 (Go.Operand.tmp 67)
                  intro listed a w1 hJ hls hl0 hlw hlc hF hU hsz
                  have e67 : a.eval (.tmp 67) = _ := hF 3 _ _ rfl rfl (by kernel_rfl)
                  rw [if_pos (by rfl)]
                  intro K hK
                  clear hF hU hsz
                  have hcq_ := (hJ.hb.cell (p := ⟨b, off + k, none⟩) hbl).trans hcq
                  obtain ⟨q1, q2, q3⟩ := eval_rest a
                  generalize hρ : a.eval = ρ
                  rw [hρ] at q1 q2 q3 e67
                  clear hρ
                  have u1 := OpUp_value Tryd.prog K
                  have u2 := OpUp_enter Tryd.prog K
                  go_simp
                  exact hK _ _ ((hJ.quiet (by decide) (by decide) _)) trivial rfl
                refine ⟨?_, ?_⟩
                · -- 5: Go.Op.buildSlice 24 1 #[(0, Go.Operand.tmp 68)]
                  intro listed a w1 hJ hls hl0 hlw hlc hF hU hsz
                  have e68 : a.eval (.tmp 68) = _ := hF 4 _ _ rfl rfl (by kernel_rfl)
                  rw [if_pos (by rfl)]
                  intro K hK
                  clear hF hU
                  have hsz9 : 69 < a.tmps.size := by rw [hsz]; simp only [List.size_toArray, List.length_cons, List.length_nil]; omega
                  obtain ⟨q1, q2, q3⟩ := eval_rest a
                  generalize hρ : a.eval = ρ
                  rw [hρ] at q1 q2 q3 e68
                  clear hρ
                  have u1 := OpUp_value Tryd.prog K
                  have u2 := OpUp_enter Tryd.prog K
                  go_simp
                  exact hK _ _ (hJ.made5 hsz9) trivial ⟨_, _, rfl, trivial⟩
                refine ⟨?_, ?_⟩
                · -- 6: Go.Op.call { callee := Go.Callee.builtin Go.Builtin.append, args := #[Go.Operand
                  intro listed a w1 hJ hls hl0 hlw hlc hF hU hsz
                  have e64 : a.eval (.tmp 64) = _ := hF 0 _ _ rfl rfl (by kernel_rfl)
                  have e69 := hF 5 _ _ rfl rfl (by kernel_rfl)
                  obtain ⟨B69, d69, e69, r69⟩ := e69
                  have e69 : a.eval (.tmp 69) = _ := e69
                  rw [if_pos (by rfl)]
                  intro K hK
                  clear hF hU
                  have hsz9 : 70 < a.tmps.size := by rw [hsz]; simp only [List.size_toArray, List.length_cons, List.length_nil]; omega
                  have h9_ := e69
                  rw [Act.eval_getD] at h9_
                  obtain ⟨q1, q2, q3⟩ := eval_rest a
                  generalize hρ : a.eval = ρ
                  rw [hρ] at q1 q2 q3 e64 e69
                  clear hρ
                  have u1 := OpUp_value Tryd.prog K
                  have u2 := OpUp_enter Tryd.prog K
                  have hl0 : listed.getD 6 false = false := hl0
                  have hlb := hlw 5 (by kernel_rfl)
                  obtain ⟨i9, hi9, hz0, hz1, hz2⟩ := info_parts infoS
                  have hJ0 := hJ
                  obtain ⟨A8, c8, B8, d8, h8, hb8, hs8, g1, g2, g3, g4, g5, g6⟩ := hJ
                  obtain ⟨e81, e82⟩ := g2 hl0
                  rw [hl0] at h8
                  simp only [Bool.false_eq_true, if_false] at h8
                  rw [e81, e82] at h8
                  obtain ⟨q9, hq1, hq2, hq3, hq4⟩ := g5 hlb
                  rw [hq1] at h9_
                  injection h9_ with h91; injection h91 with h92; injection h92 with h93 h94
                  subst h93; subst h94
                  refine OpUp_app (.tmp 64) (.tmp 69) 24 rfl wb.heap.size 9 i9 _ 1 16 Tryd.underlying24 hi9 hz0 hz1 hz2 rfl (by omega) (by omega) A1 la.length c1 _ e64 h8.a (some ⟨_, 0, none⟩) 1 1 [.string x] e69 rfl (.inr ⟨_, 0, rfl, ?hcell⟩) (by intro u hu; rw [List.mem_singleton.1 hu]; rfl) (by have := HLA2.out; omega) hs8 ?_
                  case hcell =>
                    intro k hk
                    obtain rfl : k = 0 := by simpa using hk
                    exact Lib.cell_of_heap hq2 0
                  intro A9 c9 w9 k1 k2 k3
                  refine hK _ _ (hJ0.app6 hl0 hls hsz9 ?_ k2 k3) trivial trivial
                  unfold OwnS; rw [List.length_append, List.map_append]; exact k1
                refine ⟨?_, ?_⟩
                · -- 7: Go.Op.move (Go.Operand.tmp 9)
                  intro listed a w1 hJ hls hl0 hlw hlc hF hU hsz
                  have e9 : a.eval (.tmp 9) = _ := hU 9 (by kernel_rfl)
                  rw [if_pos (by rfl)]
                  intro K hK
                  clear hF hU hsz
                  obtain ⟨q1, q2, q3⟩ := eval_rest a
                  generalize hρ : a.eval = ρ
                  rw [hρ] at q1 q2 q3 e9
                  clear hρ
                  have u1 := OpUp_value Tryd.prog K
                  have u2 := OpUp_enter Tryd.prog K
                  go_simp
                  exact hK _ _ ((hJ.quiet (by decide) (by decide) _)) trivial rfl
                refine ⟨?_, ?_⟩
                · -- 8: Go.Op.move (Go.Operand.tmp 0)
                  intro listed a w1 hJ hls hl0 hlw hlc hF hU hsz
                  have e0 : a.eval (.tmp 0) = _ := hU 0 (by kernel_rfl)
                  rw [if_pos (by rfl)]
                  intro K hK
                  clear hF hU hsz
                  obtain ⟨q1, q2, q3⟩ := eval_rest a
                  generalize hρ : a.eval = ρ
                  rw [hρ] at q1 q2 q3 e0
                  clear hρ
                  have u1 := OpUp_value Tryd.prog K
                  have u2 := OpUp_enter Tryd.prog K
                  go_simp
                  exact hK _ _ ((hJ.quiet (by decide) (by decide) _)) trivial rfl
                refine ⟨?_, ?_⟩
                · -- 9: Go.Op.move (Go.Operand.tmp 10)
                  intro listed a w1 hJ hls hl0 hlw hlc hF hU hsz
                  have e10 : a.eval (.tmp 10) = _ := hU 10 (by kernel_rfl)
                  rw [if_pos (by rfl)]
                  intro K hK
                  clear hF hU hsz
                  obtain ⟨q1, q2, q3⟩ := eval_rest a
                  generalize hρ : a.eval = ρ
                  rw [hρ] at q1 q2 q3 e10
                  clear hρ
                  have u1 := OpUp_value Tryd.prog K
                  have u2 := OpUp_enter Tryd.prog K
                  go_simp
                  exact hK _ _ ((hJ.quiet (by decide) (by decide) _)) trivial rfl
                refine ⟨?_, ?_⟩
                · -- 10: Go.Op.indexAddr 24 (Go.Operand.tmp 72) (Go.Operand.tmp 73)
                  intro listed a w1 hJ hls hl0 hlw hlc hF hU hsz
                  have e72 : a.eval (.tmp 72) = _ := hF 8 _ _ rfl rfl (by kernel_rfl)
                  have e73 : a.eval (.tmp 73) = _ := hF 9 _ _ rfl rfl (by kernel_rfl)
                  rw [if_pos (by rfl)]
                  intro K hK
                  clear hF hU hsz
                  obtain ⟨q1, q2, q3⟩ := eval_rest a
                  generalize hρ : a.eval = ρ
                  rw [hρ] at q1 q2 q3 e72 e73
                  clear hρ
                  have u1 := OpUp_value Tryd.prog K
                  have u2 := OpUp_enter Tryd.prog K
                  go_simp
                  exact hK _ _ ((hJ.quiet (by decide) (by decide) _)) trivial rfl
                refine ⟨?_, ?_⟩
                · -- 11: Go.Op.load 9 (Go.Operand.tmp 74)
                  intro listed a w1 hJ hls hl0 hlw hlc hF hU hsz
                  have e74 : a.eval (.tmp 74) = _ := hF 10 _ _ rfl rfl (by kernel_rfl)
                  rw [if_pos (by rfl)]
                  intro K hK
                  clear hF hU hsz
                  have hcq_ := (hJ.hb.cell (p := ⟨b, off + k, none⟩) hbl).trans hcq
                  obtain ⟨q1, q2, q3⟩ := eval_rest a
                  generalize hρ : a.eval = ρ
                  rw [hρ] at q1 q2 q3 e74
                  clear hρ
                  have u1 := OpUp_value Tryd.prog K
                  have u2 := OpUp_enter Tryd.prog K
                  go_simp
                  exact hK _ _ ((hJ.quiet (by decide) (by decide) _)) trivial rfl
                refine ⟨?_, ?_⟩
                · -- 12: Go.Op.buildSlice 24 1 #[(0, Go.Operand.tmp 75)]
                  intro listed a w1 hJ hls hl0 hlw hlc hF hU hsz
                  have e75 : a.eval (.tmp 75) = _ := hF 11 _ _ rfl rfl (by kernel_rfl)
                  rw [if_pos (by rfl)]
                  intro K hK
                  clear hF hU
                  have hsz9 : 76 < a.tmps.size := by rw [hsz]; simp only [List.size_toArray, List.length_cons, List.length_nil]; omega
                  obtain ⟨q1, q2, q3⟩ := eval_rest a
                  generalize hρ : a.eval = ρ
                  rw [hρ] at q1 q2 q3 e75
                  clear hρ
                  have u1 := OpUp_value Tryd.prog K
                  have u2 := OpUp_enter Tryd.prog K
                  go_simp
                  exact hK _ _ (hJ.made12 hsz9) trivial ⟨_, _, rfl, trivial⟩
                refine ⟨?_, ?_⟩
                · -- 13: Go.Op.call { callee := Go.Callee.builtin Go.Builtin.append, args := #[Go.Operand
                  intro listed a w1 hJ hls hl0 hlw hlc hF hU hsz
                  have e71 : a.eval (.tmp 71) = _ := hF 7 _ _ rfl rfl (by kernel_rfl)
                  have e76 := hF 12 _ _ rfl rfl (by kernel_rfl)
                  obtain ⟨B76, d76, e76, r76⟩ := e76
                  have e76 : a.eval (.tmp 76) = _ := e76
                  rw [if_pos (by rfl)]
                  intro K hK
                  clear hF hU
                  have hsz9 : 77 < a.tmps.size := by rw [hsz]; simp only [List.size_toArray, List.length_cons, List.length_nil]; omega
                  have h9_ := e76
                  rw [Act.eval_getD] at h9_
                  obtain ⟨q1, q2, q3⟩ := eval_rest a
                  generalize hρ : a.eval = ρ
                  rw [hρ] at q1 q2 q3 e71 e76
                  clear hρ
                  have u1 := OpUp_value Tryd.prog K
                  have u2 := OpUp_enter Tryd.prog K
                  have hl0 : listed.getD 13 false = false := hl0
                  have hlb := hlw 12 (by kernel_rfl)
                  obtain ⟨i9, hi9, hz0, hz1, hz2⟩ := info_parts infoS
                  have hJ0 := hJ
                  obtain ⟨A8, c8, B8, d8, h8, hb8, hs8, g1, g2, g3, g4, g5, g6⟩ := hJ
                  obtain ⟨e81, e82⟩ := g4 hl0
                  rw [hl0] at h8
                  simp only [Bool.false_eq_true, if_false] at h8
                  rw [e81, e82] at h8
                  obtain ⟨q9, hq1, hq2, hq3, hq4⟩ := g6 hlb
                  rw [hq1] at h9_
                  injection h9_ with h91; injection h91 with h92; injection h92 with h93 h94
                  subst h93; subst h94
                  refine OpUp_app (.tmp 71) (.tmp 76) 24 rfl wb.heap.size 9 i9 _ 1 16 Tryd.underlying24 hi9 hz0 hz1 hz2 rfl (by omega) (by omega) B1 lb.length d1 _ e71 h8.b (some ⟨_, 0, none⟩) 1 1 [.string x] e76 rfl (.inr ⟨_, 0, rfl, ?hcell⟩) (by intro u hu; rw [List.mem_singleton.1 hu]; rfl) (by have := HLB2.out; omega) hs8 ?_
                  case hcell =>
                    intro k hk
                    obtain rfl : k = 0 := by simpa using hk
                    exact Lib.cell_of_heap hq2 0
                  intro A9 c9 w9 k1 k2 k3
                  refine hK _ _ (hJ0.app13 hl0 hls hsz9 ?_ k2 k3) trivial trivial
                  unfold OwnS; rw [List.length_append, List.map_append]; exact k1
                exact trivial
              case hend =>
                intro vs0 w1 listed hJ hl1 hl2 hH0
                obtain ⟨vs1, rfl, hH1⟩ := hH0.eq_
                obtain ⟨vs2, rfl, hH2⟩ := hH1.eq_
                obtain ⟨vs3, rfl, hH3⟩ := hH2.eq_
                obtain ⟨vs4, rfl, hH4⟩ := hH3.eq_
                obtain ⟨vs5, rfl, hH5⟩ := hH4.eq_
                obtain ⟨v5, vs6, rfl, hv5, hH6⟩ := hH5.cons
                obtain ⟨v6, vs7, rfl, hv6, hH7⟩ := hH6.cons
                obtain ⟨vs8, rfl, hH8⟩ := hH7.eq_
                obtain ⟨vs9, rfl, hH9⟩ := hH8.eq_
                obtain ⟨vs10, rfl, hH10⟩ := hH9.eq_
                obtain ⟨vs11, rfl, hH11⟩ := hH10.eq_
                obtain ⟨vs12, rfl, hH12⟩ := hH11.eq_
                obtain ⟨v12, vs13, rfl, hv12, hH13⟩ := hH12.cons
                obtain ⟨v13, vs14, rfl, hv13, hH14⟩ := hH13.cons
                obtain rfl := hH14.nil
                clear hH0 hH1 hH2 hH3 hH4 hH5 hH6 hH7 hH8 hH9 hH10 hH11 hH12 hH13 hH14
                simp only [List.take_succ_cons, List.take_zero, putAll, Act.put, List.setIfInBounds_toArray, List.set_cons_zero, List.set_cons_succ]
                obtain ⟨A6, c6, B6, d6, hT6, hb6, hs6, g1, g2, g3, g4, _, _⟩ := hJ
                have e6 := g1 (hl1 6 (by decide))
                have e13 := g3 (hl1 13 (by decide))
                simp only [List.take_succ_cons, List.take_zero, putAll, Act.put, List.setIfInBounds_toArray, List.set_cons_zero, List.set_cons_succ] at e6 e13
                have e6 : v6 = .slice A6 (la.length + 1) c6 := e6
                have e13 : v13 = .slice B6 (lb.length + 1) d6 := e13
                rw [hl1 6 (by decide), hl1 13 (by decide)] at hT6
                simp only [if_true] at hT6
                subst e6
                subst e13
                obtain ⟨_, _, rfl, _⟩ := hv5
                obtain ⟨_, _, rfl, _⟩ := hv12
                have HT6 := Lib.hid hT6
                rw [← HNA.out, ← HNB.out] at HT6
                have HB6 := Lib.hid (HB.out.trans hb6)
                have hna : la.length + 1 = (insT l t xa (k + 1)).length := by rw [HNA.out, List.length_append]; rfl
                have hnb : lb.length + 1 = (insT l t xb (k + 1)).length := by rw [HNB.out, List.length_append]; rfl
                rw [hna, hnb]
                clear hT6 hb6 hs6 g1 g2 g3 g4 hl1 hl2 hna hnb
                go_wp2
                go_roundw
                case rel => exact ⟨k + 1, A6, c6, B6, d6, by omega, by go_num, rfl, rfl, HT6.out, HB6.out⟩
                case measure => first | (simp [intOf]; done) | (simp [intOf]; omega)
            · obtain rfl : k = l.length := by omega
              have HNA := Lib.hid (insT_end_off l t xa (by omega))
              have HNB := Lib.hid (insT_end_off l t xb (by omega))
              have HT3 := HT
              rw [← HNA.out, ← HNB.out] at HT3
              rw [← HNA.out, ← HNB.out]
              clear HNA HNB HDA HDB HS0 HS1 HS2 HXA HXB HLA HLB HT
              go_wp2
              go_roundw
              case rel => exact ⟨l.length + 1, A1, c1, B1, d1, by omega, by go_num, rfl, rfl, HT3.out, HB.out⟩
              case measure => first | (simp [intOf]; done) | (simp [intOf]; omega)
end Go.Proofs.YtfdngdnnjmcigaaDoor
