/- The walks of package node: in, free, fits, Put. Condition: the runs can be read. -/
import Derived.Test.YtgkojedgamglgaaNodePlain
import Derived.Test.YtgkojedgamglgaaSealWalks
import Derived.BigQuiet
namespace Go.Proofs.Ytgkojedgamglgaa
open Go.RowKit
set_option linter.unusedVariables false
set_option linter.unusedSimpArgs false
/-- A node's value. -/
def nodeV (n : NodeN) (A : Option Addr) (rs : List Rn) (c : Nat) : Value := .agg #[.int .i64 n.t, .int .i64 n.l, .int .i64 n.s, .slice A rs.length c]
theorem nin_any (n a b : Int) (w : World) :
    Calls Try.prog 88 #[.int .i64 n, .int .i64 a, .int .i64 b] w fun e w' => e = .returned (.bool (inB n a b)) ∧ w = w' := by
  unfold inB
  by_cases h1 : a ≤ n
  · go_enter Try.func88, Try.ntmps88
    go_wp2
    go_ret
    exact ⟨by simp [h1], rfl⟩
  · go_enter Try.func88, Try.ntmps88
    go_wp2
    go_ret
    exact ⟨by rw [show decide (a ≤ n) = false from decide_eq_false (by omega)]; rfl, rfl⟩
theorem nfree_any (n : NodeN) (A : Option Addr) (rs : List Rn) (c : Nat) (w : World) :
    Calls Try.prog 87 #[nodeV n A rs c] w fun e w' => e = .returned (.bool (nfreeB n rs)) ∧ Below w.heap.size w w' := by
  unfold nodeV nfreeB
  obtain ⟨t, l, s⟩ := n
  simp only
  have HW := Lib.hid ((Below.refl w.heap.size w).alloc (Nat.le_refl _) (.cells #[.int .i64 t, .int .i64 l, .int .i64 s, .slice A rs.length c] 84))
  by_cases ht : t = 0
  · skip
    by_cases hl : l = 0
    · skip
      by_cases hs : s = 0
      · skip
        by_cases hr : rs.length = 0
        · skip
          have HR := Lib.hid (show true = (decide (t = 0) && decide (l = 0) && decide (s = 0) && decide (rs.length = 0)) by simp [ht, hl, hs, hr])
          have kt : (t == 0) = true := by simp [ht]
          have kl : (l == 0) = true := by simp [hl]
          have ks : (s == 0) = true := by simp [hs]
          have kr : ((rs.length : Int) == 0) = true := by simp [hr]
          clear ht hl hs hr
          go_enter Try.func87, Try.ntmps87
          go_wp2
          go_ret
          exact ⟨ret_bool HR.out, HW.out⟩
        · skip
          have HR := Lib.hid (show false = (decide (t = 0) && decide (l = 0) && decide (s = 0) && decide (rs.length = 0)) by simp [hr])
          have kt : (t == 0) = true := by simp [ht]
          have kl : (l == 0) = true := by simp [hl]
          have ks : (s == 0) = true := by simp [hs]
          have kr : ((rs.length : Int) == 0) = false := by rw [beq_eq_false_iff_ne]; omega
          clear ht hl hs hr
          go_enter Try.func87, Try.ntmps87
          go_wp2
          go_ret
          exact ⟨ret_bool HR.out, HW.out⟩
      · skip
        have HR := Lib.hid (show false = (decide (t = 0) && decide (l = 0) && decide (s = 0) && decide (rs.length = 0)) by simp [hs])
        have kt : (t == 0) = true := by simp [ht]
        have kl : (l == 0) = true := by simp [hl]
        have ks : (s == 0) = false := by rw [beq_eq_false_iff_ne]; omega
        clear ht hl hs
        go_enter Try.func87, Try.ntmps87
        go_wp2
        go_ret
        exact ⟨ret_bool HR.out, HW.out⟩
    · skip
      have HR := Lib.hid (show false = (decide (t = 0) && decide (l = 0) && decide (s = 0) && decide (rs.length = 0)) by simp [hl])
      have kt : (t == 0) = true := by simp [ht]
      have kl : (l == 0) = false := by rw [beq_eq_false_iff_ne]; omega
      clear ht hl
      go_enter Try.func87, Try.ntmps87
      go_wp2
      go_ret
      exact ⟨ret_bool HR.out, HW.out⟩
  · skip
    have HR := Lib.hid (show false = (decide (t = 0) && decide (l = 0) && decide (s = 0) && decide (rs.length = 0)) by simp [ht])
    have kt : (t == 0) = false := by rw [beq_eq_false_iff_ne]; omega
    clear ht
    go_enter Try.func87, Try.ntmps87
    go_wp2
    go_ret
    exact ⟨ret_bool HR.out, HW.out⟩
theorem nbad_any (z v : Int) (w : World) :
    Calls Try.prog 111 #[.agg #[.int .i64 z, .int .i64 v]] w fun e w' => e = .returned (.bool (badR (z, v))) ∧ Below w.heap.size w w' := by
  have HB := Lib.hid (show badR (z, v) = (!inB z 0 2147483648 || !inB v 1 2147483648) from rfl)
  have K1 := Lib.hid (fun W => nin_any z 0 2147483648 W)
  have K2 := Lib.hid (fun W => nin_any v 1 2147483648 W)
  generalize badR (z, v) = bad at *
  generalize inB z 0 2147483648 = b1 at *
  generalize inB v 1 2147483648 = b2 at *
  have HW := Lib.hid ((Below.refl w.heap.size w).alloc (Nat.le_refl _) (.cells #[.int .i64 z, .int .i64 v] 81))
  cases b1 with
  | false =>
    have HR := Lib.hid (show true = bad from HB.out.symm)
    clear HB
    go_enter Try.func111, Try.ntmps111
    go_wp2_with fail
    refine (K1.out _).mono ?_
    rintro e w2 ⟨rfl, rfl⟩
    go_wp2
    go_ret
    exact ⟨ret_bool HR.out, HW.out⟩
  | true =>
    have HR := Lib.hid (show (!b2) = bad by rw [HB.out]; cases b2 <;> rfl)
    clear HB
    go_enter Try.func111, Try.ntmps111
    go_wp2_with fail
    refine (K1.out _).mono ?_
    rintro e w2 ⟨rfl, rfl⟩
    go_wp2_with fail
    refine (K2.out _).mono ?_
    rintro e w2 ⟨rfl, rfl⟩
    cases b2 with
    | false =>
      go_wp2
      go_ret
      exact ⟨ret_bool HR.out, HW.out⟩
    | true =>
      go_wp2
      go_ret
      exact ⟨ret_bool HR.out, HW.out⟩
theorem any_take_badR (ws : List Rn) (k : Nat) (h : k < ws.length) : (ws.take (k + 1)).any badR = ((ws.take k).any badR || badR ws[k]) := by
  rw [List.take_succ_eq_append_getElem h, List.any_append]; simp
/-- Some number that is not below nought if there is a bad run, else -1. -/
theorem indexBadR_any (ws : List Rn) (L : Option Addr) (lc : Nat) (w : World) (hl : RdR w L ws) (hn : ws.length ≤ 1000) :
    Calls Try.prog 119 #[.slice L ws.length lc, .func (.func 111) #[] #[]] w fun e w' => (∃ r : Int, e = .returned (.int .i64 r) ∧ decide (0 ≤ r) = ws.any badR) ∧ Below w.heap.size w w' := by
  have HL := Lib.hid hl
  clear hl
  go_enter Try.func119, Try.ntmps119
  go_wp2
  go_loopw [8] (fun i wr => ∃ k : Nat, k ≤ ws.length ∧ i = .int .i64 k ∧ Go.RowKit.Hid ((ws.take k).any badR = false) ∧ Below w.heap.size w wr) (fun i _ => ws.length - (intOf i).toNat)
  case atStart => exact ⟨0, Nat.zero_le _, rfl, Lib.hid rfl, Below.refl _ _⟩
  case round =>
    obtain ⟨k, hk, rfl, hno, hbw⟩ := hrel
    have HNO := Lib.hid hno.out
    have HB := Lib.hid hbw
    clear hno hbw
    by_cases hlt : k < ws.length
    · have e1 : IntKind.i64.wrap ((k : Int) + 1) = (k : Int) + 1 := IntWalk.i64_in _ (by omega)
      obtain ⟨lb, lo, rfl, hlc⟩ := (HL.out.below HB.out).at_ hlt
      obtain ⟨hk1, hk2⟩ := hlc k hlt
      have HT := Lib.hid (any_take_badR ws k hlt)
      have HANY := Lib.hid (fun (h : badR ws[k] = true) => List.any_eq_true.2 ⟨ws[k], List.getElem_mem hlt, h⟩)
      clear hlc
      generalize ws[k] = zv at *
      obtain ⟨z, v⟩ := zv
      simp only at hk1 hk2
      have KP := Lib.hid (nbad_any z v wr)
      go_wp2_with fail
      refine (KP.out).mono ?_
      rintro e w2 ⟨rfl, hb⟩
      have HB := Lib.hid (HB.out.trans (hb.mono HB.out.size))
      clear hb KP
      cases hbd : badR (z, v) with
      | true =>
        have HA := Lib.hid (HANY.out hbd)
        clear hbd
        go_wp2
        go_ret
        exact ⟨⟨k, rfl, by rw [HA.out]; simp⟩, HB.out⟩
      | false =>
        have HNO2 := Lib.hid (show (ws.take (k + 1)).any badR = false by rw [HT.out, HNO.out, hbd]; rfl)
        clear hbd
        go_wp2
        go_roundw
        case rel => exact ⟨k + 1, by omega, by go_num, Lib.hid HNO2.out, HB.out⟩
        case measure => simp [intOf]; omega
    · obtain rfl : k = ws.length := by omega
      rw [List.take_length] at HNO
      go_wp2
      go_ret
      exact ⟨⟨-1, rfl, by rw [HNO.out]; rfl⟩, HB.out⟩
theorem hasBadR_any (ws : List Rn) (L : Option Addr) (lc : Nat) (w : World) (hl : RdR w L ws) (hn : ws.length ≤ 1000) :
    Calls Try.prog 110 #[.slice L ws.length lc, .func (.func 111) #[] #[]] w fun e w' => e = .returned (.bool (ws.any badR)) ∧ Below w.heap.size w w' := by
  have HL := Lib.hid hl
  clear hl
  go_enter Try.func110, Try.ntmps110
  go_wp2_with fail
  refine (indexBadR_any ws L lc _ HL.out hn).mono ?_
  rintro e w2 ⟨⟨r, rfl, hr⟩, hb⟩
  have HR := Lib.hid hr
  clear hr
  go_wp2
  go_ret
  exact ⟨ret_bool HR.out, hb⟩
theorem nfits_any (n : NodeN) (A : Option Addr) (rs : List Rn) (c : Nat) (w : World) (hl : RdR w A rs) :
    Calls Try.prog 91 #[nodeV n A rs c] w fun e w' => e = .returned (.bool (fitsB n rs)) ∧ Below w.heap.size w w' := by
  have KF := Lib.hid (fun W => nfree_any n A rs c W)
  have HV := Lib.hid (show fitsB n rs = if n.t = 0 then nfreeB n rs else inB n.t 1 3 && inB n.l 0 16777215 && inB n.s 0 1099511627776 && decide (rs.length ≤ 4) && !(rs.any badR) from rfl)
  generalize fitsB n rs = fv at *
  generalize nfreeB n rs = fr at *
  have HX := Lib.hid hl
  clear hl
  unfold nodeV at *
  obtain ⟨t, l, s⟩ := n
  simp only at *
  have HW := Lib.hid ((Below.refl w.heap.size w).alloc (Nat.le_refl _) (.cells #[.int .i64 t, .int .i64 l, .int .i64 s, .slice A rs.length c] 84))
  have HBX := Lib.hid (heap_alloc_new w (.cells #[.int .i64 t, .int .i64 l, .int .i64 s, .slice A rs.length c] 84))
  have HX := Lib.hid (HX.out.below HW.out)
  by_cases ht : t = 0
  · subst ht
    have HR := Lib.hid (show fv = fr by rw [HV.out, if_pos rfl])
    clear HV
    go_enter Try.func91, Try.ntmps91
    go_wp2_with fail
    refine (KF.out _).mono ?_
    rintro e w1 ⟨rfl, hb⟩
    have HW := Lib.hid (HW.out.trans (hb.mono HW.out.size))
    clear hb
    go_wp2
    go_ret
    exact ⟨ret_bool HR.out.symm, HW.out⟩
  · rw [if_neg ht] at HV
    have ht0 : (t == 0) = false := by rw [beq_eq_false_iff_ne]; exact ht
    have K1 := Lib.hid (fun W => nin_any t 1 3 W)
    have K2 := Lib.hid (fun W => nin_any l 0 16777215 W)
    have K3 := Lib.hid (fun W => nin_any s 0 1099511627776 W)
    generalize inB t 1 3 = b1 at *
    generalize inB l 0 16777215 = b2 at *
    generalize inB s 0 1099511627776 = b3 at *
    clear ht KF
    cases b1 with
    | false =>
      have HR := Lib.hid (show false = fv by rw [HV.out]; rfl)
      clear HV
      go_enter Try.func91, Try.ntmps91
      go_wp2_with fail
      refine (K1.out _).mono ?_
      rintro e w2 ⟨rfl, rfl⟩
      go_wp2
      go_ret
      exact ⟨ret_bool HR.out, HW.out⟩
    | true =>
      cases b2 with
      | false =>
        have HR := Lib.hid (show false = fv by rw [HV.out]; rfl)
        clear HV
        go_enter Try.func91, Try.ntmps91
        go_wp2_with fail
        refine (K1.out _).mono ?_
        rintro e w3 ⟨rfl, rfl⟩
        go_wp2_with fail
        refine (K2.out _).mono ?_
        rintro e w4 ⟨rfl, rfl⟩
        go_wp2
        go_ret
        exact ⟨ret_bool HR.out, HW.out⟩
      | true =>
        cases b3 with
        | false =>
          have HR := Lib.hid (show false = fv by rw [HV.out]; rfl)
          clear HV
          go_enter Try.func91, Try.ntmps91
          go_wp2_with fail
          refine (K1.out _).mono ?_
          rintro e w5 ⟨rfl, rfl⟩
          go_wp2_with fail
          refine (K2.out _).mono ?_
          rintro e w6 ⟨rfl, rfl⟩
          go_wp2_with fail
          refine (K3.out _).mono ?_
          rintro e w7 ⟨rfl, rfl⟩
          go_wp2
          go_ret
          exact ⟨ret_bool HR.out, HW.out⟩
        | true =>
          by_cases h4 : rs.length ≤ 4
          · have hi4 : ¬ 4 < (rs.length : Int) := by omega
            have KB := Lib.hid (fun (W : World) h => hasBadR_any rs A c W h (by omega))
            have HR := Lib.hid (show (!(rs.any badR)) = fv by rw [HV.out, decide_eq_true h4]; rfl)
            clear HV h4
            generalize rs.any badR = bad at *
            go_enter Try.func91, Try.ntmps91
            go_wp2_with fail
            refine (K1.out _).mono ?_
            rintro e w8 ⟨rfl, rfl⟩
            go_wp2_with fail
            refine (K2.out _).mono ?_
            rintro e w9 ⟨rfl, rfl⟩
            go_wp2_with fail
            refine (K3.out _).mono ?_
            rintro e w10 ⟨rfl, rfl⟩
            go_wp2_with fail
            refine (KB.out _ HX.out).mono ?_
            rintro e w11 ⟨rfl, hb⟩
            have HW := Lib.hid (HW.out.trans (hb.mono HW.out.size))
            clear hb
            cases bad with
            | false =>
              go_wp2
              go_ret
              exact ⟨ret_bool HR.out, HW.out⟩
            | true =>
              go_wp2
              go_ret
              exact ⟨ret_bool HR.out, HW.out⟩
          · have hi4 : 4 < (rs.length : Int) := by omega
            have HR := Lib.hid (show false = fv by rw [HV.out, decide_eq_false h4]; rfl)
            clear HV h4
            go_enter Try.func91, Try.ntmps91
            go_wp2_with fail
            refine (K1.out _).mono ?_
            rintro e w12 ⟨rfl, rfl⟩
            go_wp2_with fail
            refine (K2.out _).mono ?_
            rintro e w13 ⟨rfl, rfl⟩
            go_wp2_with fail
            refine (K3.out _).mono ?_
            rintro e w14 ⟨rfl, rfl⟩
            go_wp2
            go_ret
            exact ⟨ret_bool HR.out, HW.out⟩
theorem rep8 : (List.replicate 8 0#64 : List (BitVec 64)) = [0#64, 0#64, 0#64, 0#64, 0#64, 0#64, 0#64, 0#64] := rfl
set_option maxRecDepth 100000 in
set_option maxHeartbeats 4000000 in
theorem nPut_any (n : NodeN) (A : Option Addr) (rs : List Rn) (c : Nat) (w : World) (hl : RdR w A rs) :
    Calls Try.prog 51 #[nodeV n A rs c] w fun e w' => (∃ B d, e = .returned (.slice B (nodeW n rs).length d) ∧ OwnU w' w.heap.size B (nodeW n rs) d) ∧ Below w.heap.size w w' := by
  have KF := Lib.hid (fun (W : World) (h : RdR W A rs) => nfits_any n A rs c W h)
  have HL := Lib.hid hl
  cases hf : fitsB n rs with
  | false =>
    have HV := Lib.hid (show nodeW n rs = [] by unfold nodeW; rw [hf]; rfl)
    rw [HV.out]
    rw [hf] at KF
    clear hf hl
    unfold nodeV at *
    obtain ⟨t, l, s⟩ := n
    simp only at *
    have HW := Lib.hid ((Below.refl w.heap.size w).alloc (Nat.le_refl _) (.cells #[.int .i64 t, .int .i64 l, .int .i64 s, .slice A rs.length c] 84))
    go_enter Try.func51, Try.ntmps51
    go_wp2_with fail
    refine (KF.out _ (HL.out.below HW.out)).mono ?_
    rintro e w15 ⟨rfl, hb⟩
    have HW := Lib.hid (HW.out.trans (hb.mono HW.out.size))
    clear hb
    go_wp2
    go_ret
    exact ⟨⟨none, 0, rfl, OwnU.nil_ _ _⟩, HW.out⟩
  | true =>
    have h4 := fits_four hf
    have hmk := fun (W : World) => show (Instr.makeSlice 28 (.int .i64 8) (.int .i64 8)).run Try.prog W = .ok (.slice (some ⟨W.heap.size, 0, none⟩) 8 8) (W.alloc (.cells (Array.replicate 8 (U 0#64)) 22)) from make_U 8 (by omega) W
    have HNL := Lib.hid (show (nodeW n rs).length = 8 by rw [nodeW_len, if_pos hf])
    rw [HNL.out]
    rw [hf] at KF
    by_cases ht : n.t = 0
    · have HV := Lib.hid (show nodeW n rs = List.replicate 8 0#64 by unfold nodeW; rw [if_pos hf, if_pos ht])
      rw [HV.out]
      clear hf hl HNL
      unfold nodeV at *
      obtain ⟨t, l, s⟩ := n
      simp only at *
      subst ht
      have HW := Lib.hid ((Below.refl w.heap.size w).alloc (Nat.le_refl _) (.cells #[.int .i64 0, .int .i64 l, .int .i64 s, .slice A rs.length c] 84))
      have HBX := Lib.hid (heap_alloc_new w (.cells #[.int .i64 0, .int .i64 l, .int .i64 s, .slice A rs.length c] 84))
      go_enter Try.func51, Try.ntmps51
      go_wp2_with fail
      refine (KF.out _ (HL.out.below HW.out)).mono ?_
      rintro e w1 ⟨rfl, hb⟩
      have HW := Lib.hid (HW.out.trans (hb.mono HW.out.size))
      have HBX := Lib.hid (heap_below HBX.out hb)
      clear hb
      have HO := Lib.hid (OwnU.rep w1 w.heap.size 8 HW.out.size (by unfold maxLen; omega))
      have hba : Below w1.heap.size w1 (w1.alloc (.cells (Array.replicate 8 (U 0#64)) 22)) := (Below.refl _ _).alloc (Nat.le_refl _) _
      have HW := Lib.hid (HW.out.trans (hba.mono HW.out.size))
      have HBX := Lib.hid (heap_below HBX.out hba)
      clear hba
      obtain ⟨c0, c1, c2, c3⟩ := cells4 HBX.out
      go_wp2
      go_ret
      exact ⟨⟨_, 8, rfl, HO.out⟩, HW.out⟩
    · have HV := Lib.hid (show nodeW n rs = nodeB n rs ++ [sealOf (nodeB n rs)] by unfold nodeW; rw [if_pos hf, if_neg ht])
      have HK0 := Lib.hid (show nodeK n rs 0 ++ [0#64] = [headN n, BitVec.ofInt 64 n.s, 0#64, 0#64, 0#64, 0#64, 0#64, 0#64] from rfl)
      have HKS := Lib.hid (fun k (hk : k < rs.length) => nodeK_set n rs k hk h4)
      have HKL := Lib.hid (fun k (hk : k ≤ rs.length) => nodeK_len n rs k hk h4)
      have HKB := Lib.hid (show nodeK n rs rs.length = nodeB n rs from rfl)
      have HH := Lib.hid (show headN n = BitVec.ofInt 64 n.t ||| BitVec.ofInt 64 n.l <<< 8 from rfl)
      rw [HV.out]
      generalize headN n = hn at *
      generalize nodeK n rs = nk at *
      generalize nodeB n rs = nb at *
      clear hf hl HNL HV
      unfold nodeV at *
      obtain ⟨t, l, s⟩ := n
      simp only at *
      have ht0 : (t == 0) = false := by rw [beq_eq_false_iff_ne]; exact ht
      clear ht
      have HW := Lib.hid ((Below.refl w.heap.size w).alloc (Nat.le_refl _) (.cells #[.int .i64 t, .int .i64 l, .int .i64 s, .slice A rs.length c] 84))
      have HBX := Lib.hid (heap_alloc_new w (.cells #[.int .i64 t, .int .i64 l, .int .i64 s, .slice A rs.length c] 84))
      go_enter Try.func51, Try.ntmps51
      go_wp2_with fail
      refine (KF.out _ (HL.out.below HW.out)).mono ?_
      rintro e w1 ⟨rfl, hb⟩
      have HW := Lib.hid (HW.out.trans (hb.mono HW.out.size))
      have HBX := Lib.hid (heap_below HBX.out hb)
      clear hb
      have HO := Lib.hid (OwnU.rep w1 w.heap.size 8 HW.out.size (by unfold maxLen; omega))
      rw [rep8] at HO
      have hlt1 : w.heap.size < w1.heap.size := heap_lt HBX.out
      have hba : Below w1.heap.size w1 (w1.alloc (.cells (Array.replicate 8 (U 0#64)) 22)) := (Below.refl _ _).alloc (Nat.le_refl _) _
      have HW := Lib.hid (HW.out.trans (hba.mono HW.out.size))
      have HBX := Lib.hid (heap_below HBX.out hba)
      clear hba
      have HG := Lib.hid (heap_lt (heap_alloc_new w1 (.cells (Array.replicate 8 (U 0#64)) 22)))
      have HWG := Lib.hid (show w.heap.size ≤ w1.heap.size by omega)
      obtain ⟨c0, c1, c2, c3⟩ := cells4 HBX.out
      have cz0 := HO.out.cellAt 0 (by simp)
      have cz1 := HO.out.cellAt 1 (by simp)
      have fz0 := HO.out.frozenAt 0
      have fz1 := HO.out.frozenAt 1
      have HO2 := Lib.hid ((HO.out.stored 0 hn).stored 1 (BitVec.ofInt 64 s))
      have HW2 := Lib.hid ((HW.out.setCell (p := ⟨w1.heap.size, 0, none⟩) HWG.out (U hn)).setCell (p := ⟨w1.heap.size, 1, none⟩) HWG.out (U (BitVec.ofInt 64 s)))
      have hhe : U (BitVec.ofInt 64 t ||| BitVec.ofInt 64 l <<< 8) = U hn := by rw [HH.out]
      have hmk1 := hmk w1
      clear hmk
      generalize w1.alloc (.cells (Array.replicate 8 (U 0#64)) 22) = wx at *
      have hne1 : ¬ w.heap.size = w1.heap.size := by omega
      have hne2 : ¬ w1.heap.size = w.heap.size := by omega
      have e70 : (nk 0 ++ [0#64] : List (BitVec 64)) = ([0#64, 0#64, 0#64, 0#64, 0#64, 0#64, 0#64, 0#64].set 0 hn).set 1 (BitVec.ofInt 64 s) := by rw [HK0.out]; rfl
      rw [← e70] at HO2
      clear e70
      go_wp2
      generalize (wx.setCell ⟨w1.heap.size, 0, none⟩ (U hn)).setCell ⟨w1.heap.size, 1, none⟩ (U (BitVec.ofInt 64 s)) = wz at *
      generalize w1.heap.size = gg at *
      go_loopw [32] (fun i wr => ∃ k : Nat, k ≤ rs.length ∧ i = .int .i64 k ∧ OwnU wr w.heap.size (some ⟨gg, 0, none⟩) (nk k ++ [0#64]) 8 ∧ Below w.heap.size w wr) (fun i _ => rs.length - (intOf i).toNat)
      case atStart => exact ⟨0, Nat.zero_le _, rfl, HO2.out, HW2.out⟩
      case round =>
        obtain ⟨k, hk, rfl, hown, hbw⟩ := hrel
        have HO := Lib.hid hown
        have HB := Lib.hid hbw
        clear hown hbw HO2 HW2 c0 c1 c2 c3 cz0 cz1 fz0 fz1 hne1 hne2 hlt1 HW HBX
        have hkl := HKL.out k hk
        by_cases hlt : k < rs.length
        · obtain ⟨lb, lo, rfl, hlc⟩ := (HL.out.below HB.out).at_ hlt
          obtain ⟨hk1, hk2⟩ := hlc k hlt
          have HS := Lib.hid (HKS.out k hlt)
          have HR := Lib.hid (show runW rs[k] = BitVec.ofInt 64 rs[k].1 ||| BitVec.ofInt 64 rs[k].2 <<< 32 from rfl)
          clear hlc
          generalize runW rs[k] = rw_ at *
          generalize rs[k] = zv at *
          obtain ⟨z, v⟩ := zv
          simp only at hk1 hk2 HR
          have hre : U (BitVec.ofInt 64 z ||| BitVec.ofInt 64 v <<< 32) = U rw_ := by rw [HR.out]
          have e1 : IntKind.i64.wrap ((k : Int) + 1) = (k : Int) + 1 := IntWalk.i64_in _ (by omega)
          have e2 : IntKind.i64.wrap (2 + (k : Int)) = 2 + (k : Int) := IntWalk.i64_in _ (by omega)
          have e3 : (2 + (k : Int)).toNat = 2 + k := by omega
          have e4 : 0 ≤ 2 + (k : Int) := by omega
          have e5 : 2 + (k : Int) < 8 := by omega
          have hg2 := HO.out.lt gg rfl
          have hne : ¬ gg = wr.heap.size := by omega
          obtain ⟨cq, cz⟩ : ∃ q, wr.cell? ⟨gg, 2 + k, none⟩ = some (U q) := ⟨_, HO.out.cellAt (2 + k) (by rw [List.length_append, hkl]; simp; omega)⟩
          have fz := HO.out.frozenAt (2 + k)
          have HO1 := Lib.hid (HO.out.stored (2 + k) rw_)
          have HB1 := Lib.hid (HB.out.setCell (p := ⟨gg, 2 + k, none⟩) hg2.1 (U rw_))
          have HX := Lib.hid ((Below.refl (wr.setCell ⟨gg, 2 + k, none⟩ (U rw_)).heap.size (wr.setCell ⟨gg, 2 + k, none⟩ (U rw_))).alloc (Nat.le_refl _) (.cells #[.int .i64 z, .int .i64 v] 81))
          have HO2 := Lib.hid (HO1.out.below HX.out)
          have HB2 := Lib.hid (HB1.out.trans (HX.out.mono HB1.out.size))
          rw [HS.out] at HO2
          clear hkl
          go_wp2
          go_roundw
          case rel => exact ⟨k + 1, by omega, by go_num, HO2.out, HB2.out⟩
          case measure => simp [intOf]; omega
        · obtain rfl : k = rs.length := by omega
          rw [HKB.out] at HO hkl
          have hl8 : (nb ++ [0#64]).length = 8 := by rw [List.length_append, hkl]; rfl
          have HT := Lib.hid (show RdU wr (some ⟨gg, 0, none⟩) nb by
            have h := HO.out.rd.take 7
            rw [List.take_left' hkl] at h
            exact h)
          have KO := Lib.hid (show Calls Try.prog 74 #[.slice (some ⟨gg, 0, none⟩) 7 8] wr (fun e w' => e = .returned (U (sealOf nb)) ∧ wr = w') by
            have h := Of_any nb (some ⟨gg, 0, none⟩) 8 wr HT.out (by rw [hkl]; unfold maxLen; omega)
            rw [hkl] at h
            exact h)
          obtain ⟨cq, cz⟩ : ∃ q, wr.cell? ⟨gg, 7, none⟩ = some (U q) := ⟨_, HO.out.cellAt 7 (by rw [hl8]; omega)⟩
          have fz := HO.out.frozenAt 7
          have HO2 := Lib.hid (HO.out.stored 7 (sealOf nb))
          have HE := Lib.hid (show (nb ++ [0#64]).set 7 (sealOf nb) = nb ++ [sealOf nb] by rw [List.set_append_right _ _ (by omega), hkl]; rfl)
          rw [HE.out] at HO2
          have hg2 := HO.out.lt gg rfl
          have HB2 := Lib.hid (HB.out.setCell (p := ⟨gg, 7, none⟩) hg2.1 (U (sealOf nb)))
          clear hl8 hkl
          go_wp2_with fail
          refine KO.out.mono ?_
          rintro e w5 ⟨rfl, rfl⟩
          go_wp2
          go_ret
          exact ⟨⟨_, 8, rfl, HO2.out⟩, HB2.out⟩
end Go.Proofs.Ytgkojedgamglgaa
