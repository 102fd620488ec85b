/- The walk of PathSays. Conditions: the slice can be read; its texts and slashes are together at most 2^47 bytes. -/
import Derived.Test.YtfdngdnnjmcigaaDoorPathLast
import Derived.Test.YtfdngdnnjmcigaaDoorPathPartsW
namespace Go.Proofs.YtfdngdnnjmcigaaDoor
open Go.RowKit
set_option linter.unusedVariables false
set_option linter.unusedSimpArgs false
theorem lastD_len (s : ByteArray) : (lastD s).length ≤ 401 := by
  unfold lastD
  split
  · rw [List.length_dropLast]; have := splitL_len s; omega
  · exact Nat.zero_le _
set_option maxHeartbeats 4000000 in
set_option maxRecDepth 100000 in
theorem PathSays_walk (s : ByteArray) (l : List ByteArray) (A : Option Addr) (c : Nat) (w : World) (hr : RdS w A l) (hc : l.length ≤ c) (hm : c ≤ maxLen) (hT : (joinC l).length ≤ 140737488355328) :
    Calls Tryd.prog 6 #[.string s, .slice A l.length c] w fun e w' => e = .returned (.bool true) ∧ Below w.heap.size w w' := by
  unfold maxLen at hm
  have KA := Lib.hid (awake16 w)
  by_cases hs : (500 : Int) < s.size
  · go_enter Tryd.func6, Tryd.ntmps6
    go_wp2_with fail
    refine KA.out.mono ?_
    rintro e w1 ⟨rfl, hb1⟩
    go_wp2
    all_goals go_ret
    all_goals exact ⟨rfl, hb1⟩
  have ds : decide ((500 : Int) < s.size) = false := decide_eq_false hs
  by_cases hl : (20 : Int) < l.length
  · go_enter Tryd.func6, Tryd.ntmps6
    go_wp2_with fail
    refine KA.out.mono ?_
    rintro e w1 ⟨rfl, hb1⟩
    go_wp2
    all_goals go_ret
    all_goals exact ⟨rfl, hb1⟩
  have dl : decide ((20 : Int) < l.length) = false := decide_eq_false hl
  have HR := Lib.hid hr
  have KS := Lib.hid (fun W => pSplitP_any s W)
  have KRS := Lib.hid (fun W => rSplit_any s W)
  have KL := Lib.hid (fun W => pLast_any s W (by omega))
  have KRL := Lib.hid (fun W => rLast_any s W (by omega))
  have KN := Lib.hid (fun W => pName_any s W)
  have KRN := Lib.hid (fun W => refName_any s (by unfold maxLen; omega) W)
  have KJ := Lib.hid (fun W (h : RdS W A l) => pJoin_any A l c W h (by omega) hT)
  have KRJ := Lib.hid (fun W (h : RdS W A l) => rJoin_any A l c W h (by omega) hT)
  have KC := Lib.hid (fun W => pClean_any s W)
  have KRC := Lib.hid (fun W => rClean_any s W)
  unfold LastPost at KL KRL
  have hsl := splitL_len s
  have hdl := lastD_len s
  have hst : sameT (splitL s) (splitL s) = true := decide_eq_true rfl
  have hsd : sameT (lastD s) (lastD s) = true := decide_eq_true rfl
  have KT := Lib.hid (fun W A2 A3 c2 c3 (h1 : RdS W A2 (splitL s)) (h2 : RdS W A3 (splitL s)) => by have h := pTexts_any (splitL s) (splitL s) A2 A3 c2 c3 W h1 h2 (by unfold maxLen; omega) (by unfold maxLen; omega); rw [hst] at h; exact h)
  have KT2 := Lib.hid (fun W A2 A3 c2 c3 (h1 : RdS W A2 (lastD s)) (h2 : RdS W A3 (lastD s)) => by have h := pTexts_any (lastD s) (lastD s) A2 A3 c2 c3 W h1 h2 (by unfold maxLen; omega) (by unfold maxLen; omega); rw [hsd] at h; exact h)
  clear hst hsd hsl hdl hr hT hs hl
  generalize splitE s = zE at *
  generalize splitL s = P at *
  generalize lastX s = zX at *
  generalize lastD s = D at *
  generalize lastN s = N at *
  generalize nameOk s = nb at *
  generalize joinB l = jb at *
  generalize cleanB s = cb at *
  have b1 : (N.toList == N.toList) = true := beq_self_eq_true _
  have b2 : (jb.toList == jb.toList) = true := beq_self_eq_true _
  have b3 : (cb.toList == cb.toList) = true := beq_self_eq_true _
  have b4 : (nb == nb) = true := beq_self_eq_true _
  have b5 : (zE == zE) = true := beq_self_eq_true _
  have b6 : (zX == zX) = true := beq_self_eq_true _
  go_enter Tryd.func6, Tryd.ntmps6
  go_wp2_with fail
  refine KA.out.mono ?_
  rintro e w1 ⟨rfl, hb1⟩
  have HW := Lib.hid hb1
  have HR := Lib.hid (HR.out.below hb1)
  clear hb1 KA
  go_wp2_with fail
  refine (KS.out _).mono ?_
  rintro e w2 ⟨v, rfl, hown, hb⟩
  obtain ⟨A2, c2, rfl, hrd, _, _⟩ := OwnS.form hown
  have H2 := Lib.hid hrd
  have HR := Lib.hid (HR.out.below hb)
  have HW := Lib.hid (HW.out.trans (hb.mono HW.out.size))
  clear hown hrd hb KS
  go_wp2_with fail
  refine (KRS.out _).mono ?_
  rintro e w3 ⟨v, rfl, hown, hb⟩
  obtain ⟨A3, c3, rfl, hrd, _, _⟩ := OwnS.form hown
  have H3 := Lib.hid hrd
  have H2 := Lib.hid (H2.out.below hb)
  have HR := Lib.hid (HR.out.below hb)
  have HW := Lib.hid (HW.out.trans (hb.mono HW.out.size))
  clear hown hrd hb KRS
  go_wp2_with fail
  refine (KL.out _).mono ?_
  rintro e w4 ⟨A4, c4, rfl, hrd, hb⟩
  have H4 := Lib.hid hrd
  have H3 := Lib.hid (H3.out.below hb)
  have H2 := Lib.hid (H2.out.below hb)
  have HR := Lib.hid (HR.out.below hb)
  have HW := Lib.hid (HW.out.trans (hb.mono HW.out.size))
  clear hrd hb KL
  go_wp2_with fail
  refine (KRL.out _).mono ?_
  rintro e w5 ⟨A5, c5, rfl, hrd, hb⟩
  have H5 := Lib.hid hrd
  have H4 := Lib.hid (H4.out.below hb)
  have H3 := Lib.hid (H3.out.below hb)
  have H2 := Lib.hid (H2.out.below hb)
  have HR := Lib.hid (HR.out.below hb)
  have HW := Lib.hid (HW.out.trans (hb.mono HW.out.size))
  clear hrd hb KRL
  go_wp2_with fail
  refine (KT.out _ _ _ _ _ H2.out H3.out).mono ?_
  rintro e w6 ⟨rfl, hb⟩
  have H5 := Lib.hid (H5.out.below hb)
  have H4 := Lib.hid (H4.out.below hb)
  have HR := Lib.hid (HR.out.below hb)
  have HW := Lib.hid (HW.out.trans (hb.mono HW.out.size))
  clear hb KT H2 H3
  go_wp2_with fail
  refine (KT2.out _ _ _ _ _ H4.out H5.out).mono ?_
  rintro e w7 ⟨rfl, hb⟩
  have HR := Lib.hid (HR.out.below hb)
  have HW := Lib.hid (HW.out.trans (hb.mono HW.out.size))
  clear hb KT2 H4 H5
  go_wp2_with fail
  refine (KN.out _).mono ?_
  rintro e w8 ⟨rfl, hw⟩
  subst hw
  go_wp2_with fail
  refine (KRN.out _).mono ?_
  rintro e w9 ⟨rfl, hw⟩
  subst hw
  clear KN KRN
  go_wp2_with fail
  refine (KJ.out _ HR.out).mono ?_
  rintro e w10 ⟨rfl, hb⟩
  have HR := Lib.hid (HR.out.below hb)
  have HW := Lib.hid (HW.out.trans (hb.mono HW.out.size))
  clear hb KJ
  go_wp2_with fail
  refine (KRJ.out _ HR.out).mono ?_
  rintro e w11 ⟨rfl, hw⟩
  subst hw
  clear KRJ
  go_wp2_with fail
  refine (KC.out _).mono ?_
  rintro e w12 ⟨rfl, hb⟩
  have HW := Lib.hid (HW.out.trans (hb.mono HW.out.size))
  clear hb KC
  go_wp2_with fail
  refine (KRC.out _).mono ?_
  rintro e w13 ⟨rfl, hb⟩
  have HW := Lib.hid (HW.out.trans (hb.mono HW.out.size))
  clear hb KRC
  go_wp2
  go_ret
  exact ⟨rfl, HW.out⟩
end Go.Proofs.YtfdngdnnjmcigaaDoor
