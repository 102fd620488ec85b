/- Chapter 16: Last, the program's and the reference's. Condition: a text of at most 2^62 bytes. -/
import Derived.Test.YtfdngdnnjmcigaaDoorPathRef6
import Derived.Test.YtfdngdnnjmcigaaDoorPath5
namespace Go.Proofs.YtfdngdnnjmcigaaDoor
open Go.RowKit
set_option linter.unusedVariables false
set_option linter.unusedSimpArgs false
def lastOf (P : List ByteArray) : ByteArray := P.getLastD ⟨#[]⟩
def lastBad (s : ByteArray) : Bool := (splitL s).isEmpty || ((lastOf (splitL s)).toList == [46, 46]) || (s.toList == [46]) || Lib.hasSuffix s.data.toList [47, 46]
def lastX (s : ByteArray) : Int := if splitE s = 0 then (if lastBad s = true then 1 else 0) else splitE s
def lastD (s : ByteArray) : List ByteArray := if lastX s = 0 then (splitL s).dropLast else []
def lastN (s : ByteArray) : ByteArray := if lastX s = 0 then lastOf (splitL s) else ⟨#[]⟩
/-- What a call of Last leaves. -/
def LastPost (w : World) (s : ByteArray) (e : Ending) (w' : World) : Prop :=
  ∃ A c, e = .returned (.tuple #[.slice A (lastD s).length c, .string (lastN s), .int .i64 (lastX s)]) ∧ RdS w' A (lastD s) ∧ Below w.heap.size w w'
theorem last_e {s : ByteArray} (h : splitE s ≠ 0) : lastX s = splitE s ∧ lastD s = [] ∧ lastN s = ⟨#[]⟩ := by
  have e : lastX s = splitE s := by unfold lastX; rw [if_neg h]
  exact ⟨e, by unfold lastD; rw [e, if_neg h], by unfold lastN; rw [e, if_neg h]⟩
theorem last_bad {s : ByteArray} (h : splitE s = 0) (hb : lastBad s = true) : lastX s = 1 ∧ lastD s = [] ∧ lastN s = ⟨#[]⟩ := by
  have e : lastX s = 1 := by unfold lastX; rw [if_pos h, if_pos hb]
  exact ⟨e, by unfold lastD; rw [e, if_neg (by decide)], by unfold lastN; rw [e, if_neg (by decide)]⟩
theorem last_ok {s : ByteArray} (h : splitE s = 0) (hb : lastBad s = false) : lastX s = 0 ∧ lastD s = (splitL s).dropLast ∧ lastN s = lastOf (splitL s) := by
  have e : lastX s = 0 := by unfold lastX; rw [if_pos h, if_neg (by rw [hb]; decide)]
  exact ⟨e, by unfold lastD; rw [e, if_pos rfl], by unfold lastN; rw [e, if_pos rfl]⟩
theorem lastOf_get {P : List ByteArray} (h : 0 < P.length) : lastOf P = P[P.length - 1] := by
  unfold lastOf
  rw [List.getLastD_eq_getLast?, List.getLast?_eq_getElem?, List.getElem?_eq_getElem (by omega)]
  rfl
theorem suffix_raw (s : ByteArray) : (decide (2 ≤ s.size) && ((s.extract (s.size - 2) s.size).toList == [47, 46])) = Lib.hasSuffix s.data.toList [47, 46] := by
  have h := Lib.hasSuffix_raw s ⟨#[47, 46]⟩
  rw [show (⟨#[47, 46]⟩ : ByteArray).toList = [47, 46] by rw [ByteArray.toList_eq]] at h
  exact h
set_option maxHeartbeats 4000000 in
set_option maxRecDepth 100000 in
theorem pLast_any (s : ByteArray) (w : World) (hs : s.size ≤ 4611686018427387904) :
    Calls Tryd.prog 13 #[.string s] w fun e w' => LastPost w s e w' := by
  have KSP := Lib.hid (fun W => pSplitP_any s W)
  have KSF := Lib.hid (fun W => pSuffix_any s ⟨#[47, 46]⟩ W (by omega))
  rw [show (⟨#[47, 46]⟩ : ByteArray).data.toList = [47, 46] from rfl] at KSF
  have hlen := splitL_len s
  unfold LastPost
  by_cases hE : splitE s = 0
  rotate_left
  · obtain ⟨e1, e2, e3⟩ := last_e hE
    rw [e1, e2, e3]
    have hE2 : (splitE s != 0) = true := by simp [hE]
    clear e1 e2 e3
    generalize splitE s = z at *
    go_enter Tryd.func13, Tryd.ntmps13
    go_wp2_with fail
    refine (KSP.out _).mono ?_
    rintro e w1 ⟨v, rfl, hown, hb1⟩
    go_wp2
    go_ret3
    exact ⟨none, 0, rfl, .inl rfl, hb1⟩
  rw [hE] at KSP
  by_cases hP : 0 < (splitL s).length
  rotate_left
  · have hP0 : splitL s = [] := List.eq_nil_of_length_eq_zero (by omega)
    obtain ⟨e1, e2, e3⟩ := last_bad hE (by unfold lastBad; rw [hP0]; rfl)
    rw [e1, e2, e3]
    rw [hP0] at KSP
    clear e1 e2 e3 hP hP0 hlen hE
    go_enter Tryd.func13, Tryd.ntmps13
    go_wp2_with fail
    refine (KSP.out _).mono ?_
    rintro e w1 ⟨v, rfl, hown, hb1⟩
    obtain ⟨A, c, rfl, hrd, hnc, _⟩ := OwnS.form hown
    clear hown hrd hnc
    go_wp2
    go_ret3
    exact ⟨none, 0, rfl, .inl rfl, hb1⟩
  have HLO := Lib.hid (lastOf_get hP)
  have HBD := Lib.hid (show lastBad s = (((lastOf (splitL s)).toList == [46, 46]) || (s.toList == [46]) || Lib.hasSuffix s.data.toList [47, 46]) by
    unfold lastBad
    have : (splitL s).isEmpty = false := by
      cases h : splitL s with
      | nil => rw [h] at hP; simp at hP
      | cons a b => rfl
    rw [this, Bool.false_or])
  have HLB := Lib.hid (fun h => last_bad hE h)
  have HLK := Lib.hid (fun h => last_ok hE h)
  rw [HLO.out] at HBD HLK
  clear hE
  generalize lastX s = zX at *
  generalize lastD s = zD at *
  generalize lastN s = zN at *
  generalize splitL s = P at *
  have hx := List.getElem?_eq_getElem (show P.length - 1 < P.length by omega)
  have HX := Lib.hid hx
  clear hx
  generalize P[P.length - 1] = x at *
  have step : ∀ (W : World) (A : Option Addr), RdS W A P → ∃ b off, A = some ⟨b, off, none⟩ ∧ W.cell? ⟨b, off + (P.length - 1), none⟩ = some (.string x) := by
    intro W A hr
    rcases hr with h | ⟨b, o, rfl, hlt, hc⟩
    · rw [h] at hP; simp at hP
    · exact ⟨b, o, rfl, hc _ _ HX.out⟩
  have HSTEP := Lib.hid step
  clear step
  cases hx2 : x.toList == [46, 46] with
  | true =>
    obtain ⟨e1, e2, e3⟩ := HLB.out (by rw [HBD.out, hx2]; rfl)
    rw [e1, e2, e3]
    clear e1 e2 e3
    go_enter Tryd.func13, Tryd.ntmps13
    go_wp2_with fail
    refine (KSP.out _).mono ?_
    rintro e w1 ⟨v, rfl, hown, hb1⟩
    obtain ⟨A, c, rfl, hrd, hnc, _⟩ := OwnS.form hown
    obtain ⟨b, off, rfl, hcq⟩ := HSTEP.out w1 A hrd
    have HRD := Lib.hid hrd
    have HB1 := Lib.hid hb1
    clear hown hrd hb1 KSP HX HSTEP HLB HLK HBD HLO
    generalize hn : P.length = n at *
    have e2 : IntKind.i64.wrap ((n : Int) - 1) = (n : Int) - 1 := IntWalk.i64_in _ (by omega)
    have e3 : ((n : Int) - 1).toNat = n - 1 := by omega
    have e4 : ¬ ((n : Int) - 1 < 0) := by omega
    have e5 : 0 ≤ (n : Int) - 1 := by omega
    go_wp2
    all_goals go_ret3
    all_goals exact ⟨none, 0, rfl, .inl rfl, HB1.out⟩
  | false =>
    cases hdt : s.toList == [46] with
    | true =>
      obtain ⟨e1, e2, e3⟩ := HLB.out (by rw [HBD.out, hx2, hdt]; rfl)
      rw [e1, e2, e3]
      clear e1 e2 e3
      go_enter Tryd.func13, Tryd.ntmps13
      go_wp2_with fail
      refine (KSP.out _).mono ?_
      rintro e w1 ⟨v, rfl, hown, hb1⟩
      obtain ⟨A, c, rfl, hrd, hnc, _⟩ := OwnS.form hown
      obtain ⟨b, off, rfl, hcq⟩ := HSTEP.out w1 A hrd
      have HRD := Lib.hid hrd
      have HB1 := Lib.hid hb1
      clear hown hrd hb1 KSP HX HSTEP HLB HLK HBD HLO
      generalize hn : P.length = n at *
      have e2 : IntKind.i64.wrap ((n : Int) - 1) = (n : Int) - 1 := IntWalk.i64_in _ (by omega)
      have e3 : ((n : Int) - 1).toNat = n - 1 := by omega
      have e4 : ¬ ((n : Int) - 1 < 0) := by omega
      have e5 : 0 ≤ (n : Int) - 1 := by omega
      go_wp2
      all_goals go_ret3
      all_goals exact ⟨none, 0, rfl, .inl rfl, HB1.out⟩
    | false =>
      cases hsf : Lib.hasSuffix s.data.toList [47, 46] with
      | true =>
        obtain ⟨e1, e2, e3⟩ := HLB.out (by rw [HBD.out, hx2, hdt, hsf]; rfl)
        rw [e1, e2, e3]
        clear e1 e2 e3
        rw [hsf] at KSF
        go_enter Tryd.func13, Tryd.ntmps13
        go_wp2_with fail
        refine (KSP.out _).mono ?_
        rintro e w1 ⟨v, rfl, hown, hb1⟩
        obtain ⟨A, c, rfl, hrd, hnc, _⟩ := OwnS.form hown
        obtain ⟨b, off, rfl, hcq⟩ := HSTEP.out w1 A hrd
        have HRD := Lib.hid hrd
        have HB1 := Lib.hid hb1
        clear hown hrd hb1 KSP HX HSTEP HLB HLK HBD HLO
        generalize hn : P.length = n at *
        have e2 : IntKind.i64.wrap ((n : Int) - 1) = (n : Int) - 1 := IntWalk.i64_in _ (by omega)
        have e3 : ((n : Int) - 1).toNat = n - 1 := by omega
        have e4 : ¬ ((n : Int) - 1 < 0) := by omega
        have e5 : 0 ≤ (n : Int) - 1 := by omega
        go_wp2_with fail
        refine (KSF.out _).mono ?_
        rintro e w2 ⟨rfl, hw⟩
        subst hw
        go_wp2
        all_goals go_ret3
        all_goals exact ⟨none, 0, rfl, .inl rfl, HB1.out⟩
      | false =>
        obtain ⟨e1, e2, e3⟩ := HLK.out (by rw [HBD.out, hx2, hdt, hsf]; rfl)
        rw [e1, e2, e3]
        clear e1 e2 e3
        rw [hsf] at KSF
        go_enter Tryd.func13, Tryd.ntmps13
        go_wp2_with fail
        refine (KSP.out _).mono ?_
        rintro e w1 ⟨v, rfl, hown, hb1⟩
        obtain ⟨A, c, rfl, hrd, hnc, _⟩ := OwnS.form hown
        obtain ⟨b, off, rfl, hcq⟩ := HSTEP.out w1 A hrd
        have HRD := Lib.hid hrd
        have HB1 := Lib.hid hb1
        clear hown hrd hb1 KSP HX HSTEP HLB HLK HBD HLO
        generalize hn : P.length = n at *
        have e2 : IntKind.i64.wrap ((n : Int) - 1) = (n : Int) - 1 := IntWalk.i64_in _ (by omega)
        have e3 : ((n : Int) - 1).toNat = n - 1 := by omega
        have e4 : ¬ ((n : Int) - 1 < 0) := by omega
        have e5 : 0 ≤ (n : Int) - 1 := by omega
        go_wp2_with fail
        refine (KSF.out _).mono ?_
        rintro e w2 ⟨rfl, hw⟩
        subst hw
        go_wp2
        go_quiet (fail)
        go_wp2
        go_ret3
        subst hn
        exact ⟨some ⟨b, off, none⟩, c, by rw [List.length_dropLast]; rfl, HRD.out.init, below_drewN HB1.out _⟩
set_option maxHeartbeats 4000000 in
set_option maxRecDepth 100000 in
theorem rLast_any (s : ByteArray) (w : World) (hs : s.size ≤ 4611686018427387904) :
    Calls Tryd.prog 16 #[.string s] w fun e w' => LastPost w s e w' := by
  have KSP := Lib.hid (fun W => rSplit_any s W)
  have hlen := splitL_len s
  unfold LastPost
  by_cases hE : splitE s = 0
  rotate_left
  · obtain ⟨e1, e2, e3⟩ := last_e hE
    rw [e1, e2, e3]
    have hE2 : (splitE s != 0) = true := by simp [hE]
    clear e1 e2 e3
    generalize splitE s = z at *
    go_enter Tryd.func16, Tryd.ntmps16
    go_wp2_with fail
    refine (KSP.out _).mono ?_
    rintro e w1 ⟨v, rfl, hown, hb1⟩
    go_wp2
    go_ret3
    exact ⟨none, 0, rfl, .inl rfl, hb1⟩
  rw [hE] at KSP
  by_cases hP : 0 < (splitL s).length
  rotate_left
  · have hP0 : splitL s = [] := List.eq_nil_of_length_eq_zero (by omega)
    obtain ⟨e1, e2, e3⟩ := last_bad hE (by unfold lastBad; rw [hP0]; rfl)
    rw [e1, e2, e3]
    rw [hP0] at KSP
    clear e1 e2 e3 hP hP0 hlen hE
    go_enter Tryd.func16, Tryd.ntmps16
    go_wp2_with fail
    refine (KSP.out _).mono ?_
    rintro e w1 ⟨v, rfl, hown, hb1⟩
    obtain ⟨A, c, rfl, hrd, hnc, _⟩ := OwnS.form hown
    clear hown hrd hnc
    go_wp2
    go_ret3
    exact ⟨none, 0, rfl, .inl rfl, hb1⟩
  have HLO := Lib.hid (lastOf_get hP)
  have HBD := Lib.hid (show lastBad s = (((lastOf (splitL s)).toList == [46, 46]) || (s.toList == [46]) || Lib.hasSuffix s.data.toList [47, 46]) by
    unfold lastBad
    have : (splitL s).isEmpty = false := by
      cases h : splitL s with
      | nil => rw [h] at hP; simp at hP
      | cons a b => rfl
    rw [this, Bool.false_or])
  have HLB := Lib.hid (fun h => last_bad hE h)
  have HLK := Lib.hid (fun h => last_ok hE h)
  rw [HLO.out] at HBD HLK
  have HSX := Lib.hid (suffix_raw s)
  clear hE
  generalize lastX s = zX at *
  generalize lastD s = zD at *
  generalize lastN s = zN at *
  generalize splitL s = P at *
  have hx := List.getElem?_eq_getElem (show P.length - 1 < P.length by omega)
  have HX := Lib.hid hx
  clear hx
  generalize P[P.length - 1] = x at *
  have step : ∀ (W : World) (A : Option Addr), RdS W A P → ∃ b off, A = some ⟨b, off, none⟩ ∧ W.cell? ⟨b, off + (P.length - 1), none⟩ = some (.string x) := by
    intro W A hr
    rcases hr with h | ⟨b, o, rfl, hlt, hc⟩
    · rw [h] at hP; simp at hP
    · exact ⟨b, o, rfl, hc _ _ HX.out⟩
  have HSTEP := Lib.hid step
  clear step
  cases hx2 : x.toList == [46, 46] with
  | true =>
    obtain ⟨e1, e2, e3⟩ := HLB.out (by rw [HBD.out, hx2]; rfl)
    rw [e1, e2, e3]
    clear e1 e2 e3
    go_enter Tryd.func16, Tryd.ntmps16
    go_wp2_with fail
    refine (KSP.out _).mono ?_
    rintro e w1 ⟨v, rfl, hown, hb1⟩
    obtain ⟨A, c, rfl, hrd, hnc, _⟩ := OwnS.form hown
    obtain ⟨b, off, rfl, hcq⟩ := HSTEP.out w1 A hrd
    have HRD := Lib.hid hrd
    have HB1 := Lib.hid hb1
    clear hown hrd hb1 KSP HX HSTEP HLB HLK HBD HLO
    generalize hn : P.length = n at *
    have e2 : IntKind.i64.wrap ((n : Int) - 1) = (n : Int) - 1 := IntWalk.i64_in _ (by omega)
    have e3 : ((n : Int) - 1).toNat = n - 1 := by omega
    have e4 : ((n : Int) == 0) = false := by simp; omega
    have e5 : 0 ≤ (n : Int) - 1 := by omega
    go_wp2
    all_goals go_ret3
    all_goals exact ⟨none, 0, rfl, .inl rfl, HB1.out⟩
  | false =>
    cases hdt : s.toList == [46] with
    | true =>
      obtain ⟨e1, e2, e3⟩ := HLB.out (by rw [HBD.out, hx2, hdt]; rfl)
      rw [e1, e2, e3]
      clear e1 e2 e3
      go_enter Tryd.func16, Tryd.ntmps16
      go_wp2_with fail
      refine (KSP.out _).mono ?_
      rintro e w1 ⟨v, rfl, hown, hb1⟩
      obtain ⟨A, c, rfl, hrd, hnc, _⟩ := OwnS.form hown
      obtain ⟨b, off, rfl, hcq⟩ := HSTEP.out w1 A hrd
      have HRD := Lib.hid hrd
      have HB1 := Lib.hid hb1
      clear hown hrd hb1 KSP HX HSTEP HLB HLK HBD HLO
      generalize hn : P.length = n at *
      have e2 : IntKind.i64.wrap ((n : Int) - 1) = (n : Int) - 1 := IntWalk.i64_in _ (by omega)
      have e3 : ((n : Int) - 1).toNat = n - 1 := by omega
      have e4 : ((n : Int) == 0) = false := by simp; omega
      have e5 : 0 ≤ (n : Int) - 1 := by omega
      go_wp2
      all_goals go_ret3
      all_goals exact ⟨none, 0, rfl, .inl rfl, HB1.out⟩
    | false =>
      cases hsf : Lib.hasSuffix s.data.toList [47, 46] with
      | true =>
        obtain ⟨e1, e2, e3⟩ := HLB.out (by rw [HBD.out, hx2, hdt, hsf]; rfl)
        rw [e1, e2, e3]
        clear e1 e2 e3
        have hsx := HSX.out
        rw [hsf] at hsx
        rw [Bool.and_eq_true, decide_eq_true_eq] at hsx
        obtain ⟨hz2, hext⟩ := hsx
        clear HSX hsf
        have f1 : (2 : Int) ≤ s.size := by omega
        have f2 : IntKind.i64.wrap ((s.size : Int) - 2) = (s.size : Int) - 2 := IntWalk.i64_in _ (by omega)
        have f3 : ((s.size : Int) - 2).toNat = s.size - 2 := by omega
        have f4 : 0 ≤ (s.size : Int) - 2 := by omega
        go_enter Tryd.func16, Tryd.ntmps16
        go_wp2_with fail
        refine (KSP.out _).mono ?_
        rintro e w1 ⟨v, rfl, hown, hb1⟩
        obtain ⟨A, c, rfl, hrd, hnc, _⟩ := OwnS.form hown
        obtain ⟨b, off, rfl, hcq⟩ := HSTEP.out w1 A hrd
        have HRD := Lib.hid hrd
        have HB1 := Lib.hid hb1
        clear hown hrd hb1 KSP HX HSTEP HLB HLK HBD HLO
        generalize hn : P.length = n at *
        have e2 : IntKind.i64.wrap ((n : Int) - 1) = (n : Int) - 1 := IntWalk.i64_in _ (by omega)
        have e3 : ((n : Int) - 1).toNat = n - 1 := by omega
        have e4 : ((n : Int) == 0) = false := by simp; omega
        have e5 : 0 ≤ (n : Int) - 1 := by omega
        go_wp2
        all_goals go_ret3
        all_goals exact ⟨none, 0, rfl, .inl rfl, HB1.out⟩
      | false =>
        obtain ⟨e1, e2, e3⟩ := HLK.out (by rw [HBD.out, hx2, hdt, hsf]; rfl)
        rw [e1, e2, e3]
        clear e1 e2 e3
        have hsx := HSX.out
        rw [hsf] at hsx
        clear HSX hsf
        by_cases hz2 : 2 ≤ s.size
        · rw [decide_eq_true hz2, Bool.true_and] at hsx
          have f1 : (2 : Int) ≤ s.size := by omega
          have f2 : IntKind.i64.wrap ((s.size : Int) - 2) = (s.size : Int) - 2 := IntWalk.i64_in _ (by omega)
          have f3 : ((s.size : Int) - 2).toNat = s.size - 2 := by omega
          have f4 : 0 ≤ (s.size : Int) - 2 := by omega
          go_enter Tryd.func16, Tryd.ntmps16
          go_wp2_with fail
          refine (KSP.out _).mono ?_
          rintro e w1 ⟨v, rfl, hown, hb1⟩
          obtain ⟨A, c, rfl, hrd, hnc, _⟩ := OwnS.form hown
          obtain ⟨b, off, rfl, hcq⟩ := HSTEP.out w1 A hrd
          have HRD := Lib.hid hrd
          have HB1 := Lib.hid hb1
          clear hown hrd hb1 KSP HX HSTEP HLB HLK HBD HLO
          generalize hn : P.length = n at *
          have e2 : IntKind.i64.wrap ((n : Int) - 1) = (n : Int) - 1 := IntWalk.i64_in _ (by omega)
          have e3 : ((n : Int) - 1).toNat = n - 1 := by omega
          have e4 : ((n : Int) == 0) = false := by simp; omega
          have e5 : 0 ≤ (n : Int) - 1 := by omega
          go_wp2
          go_quiet (fail)
          go_wp2
          go_ret3
          subst hn
          exact ⟨some ⟨b, off, none⟩, c, by rw [List.length_dropLast]; rfl, HRD.out.init, below_drewN HB1.out _⟩
        · have f1 : ¬ (2 : Int) ≤ s.size := by omega
          have f2 : (s.size : Int) < 2 := by omega
          clear hsx
          go_enter Tryd.func16, Tryd.ntmps16
          go_wp2_with fail
          refine (KSP.out _).mono ?_
          rintro e w1 ⟨v, rfl, hown, hb1⟩
          obtain ⟨A, c, rfl, hrd, hnc, _⟩ := OwnS.form hown
          obtain ⟨b, off, rfl, hcq⟩ := HSTEP.out w1 A hrd
          have HRD := Lib.hid hrd
          have HB1 := Lib.hid hb1
          clear hown hrd hb1 KSP HX HSTEP HLB HLK HBD HLO
          generalize hn : P.length = n at *
          have e2 : IntKind.i64.wrap ((n : Int) - 1) = (n : Int) - 1 := IntWalk.i64_in _ (by omega)
          have e3 : ((n : Int) - 1).toNat = n - 1 := by omega
          have e4 : ((n : Int) == 0) = false := by simp; omega
          have e5 : 0 ≤ (n : Int) - 1 := by omega
          go_wp2
          go_quiet (fail)
          go_wp2
          go_ret3
          subst hn
          exact ⟨some ⟨b, off, none⟩, c, by rw [List.length_dropLast]; rfl, HRD.out.init, below_drewN HB1.out _⟩
end Go.Proofs.YtfdngdnnjmcigaaDoor
