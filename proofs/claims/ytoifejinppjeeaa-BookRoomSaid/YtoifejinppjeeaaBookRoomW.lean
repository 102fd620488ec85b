/- The walk of the statement BookRoom. Condition: the number is an int. -/
import Derived.Test.YtoifejinppjeeaaBegun
import Derived.Test.YtoifejinppjeeaaBookLaw
import Derived.Test.YtoifejinppjeeaaRegion5
import Derived.BigGuard
namespace Go.Proofs.Ytoifejinppjeeaa
open Go.RowKit
set_option linter.unusedVariables false
set_option linter.unusedSimpArgs false
theorem make_W (k : Nat) (h : k ≤ 100000) (w : World) : (Instr.makeSlice 75 (.int .i64 (k : Int)) (.int .i64 (k : Int))).run Try.prog w =
    .ok (.slice (some ⟨w.heap.size, 0, none⟩) k k) (w.alloc (.cells (madeCells #[.int .i64 0, .int .u64 0] (k * 2)) 88)) := by
  obtain ⟨i, hi, hz0, hz1, hz2⟩ := info_parts infoWr
  have hr := run_make (P := Try.prog) w 75 88 i _ Try.underlying75 hi hz0 .i64 .i64 k k (by omega) (Int.le_refl _) (by rw [hz2]; omega) (by omega)
  simp only [Int.toNat_natCast] at hr
  rw [hr, hz1]
  rfl
theorem rdW_made {w : World} {q k : Nat} {T : TypeId} (h : w.heap[q]? = some (.cells (madeCells #[.int .i64 0, .int .u64 0] (k * 2)) T (0, 0))) : RdW w (some ⟨q, 0, none⟩) (List.replicate k (0, 0#64)) := by
  have key : ∀ i, i < k * 2 → w.cell? ⟨q, i, none⟩ = some ((#[.int .i64 0, .int .u64 0] : Array Value)[i % 2]!) := fun i hi => by
    rw [Lib.cell_of_heap h i]
    unfold madeCells
    simp [hi]
  refine .inr ⟨q, 0, rfl, fun j hj => ?_⟩
  rw [List.length_replicate] at hj
  have h1 := key (0 + j * 2) (by omega)
  have h2 := key (0 + j * 2 + 1) (by omega)
  rw [show (0 + j * 2) % 2 = 0 by omega] at h1
  rw [show (0 + j * 2 + 1) % 2 = 1 by omega] at h2
  rw [List.getElem_replicate]
  exact ⟨h1, h2⟩
def ZW (k : Nat) : Fact := fun v w => ∃ q d, v = .slice (some ⟨q, d, none⟩) k k ∧ (d = 0 ∧ w.heap[q]? = some (.cells (madeCells #[.int .i64 0, .int .u64 0] (k * 2)) 88 (0, 0)))
def ZR (k : Nat) : Fact := fun v w => ∃ q d, v = .agg #[U 1#64, .slice (some ⟨q, d, none⟩) k k] ∧ (d = 0 ∧ w.heap[q]? = some (.cells (madeCells #[.int .i64 0, .int .u64 0] (k * 2)) 88 (0, 0)))
theorem stab_ZW {k : Nat} : Stab Stood (ZW k) := fun v w w' ⟨q, d, e, hd, hq⟩ h => ⟨q, d, e, hd, (h.block q (Array.getElem?_eq_some_iff.1 hq).1).trans hq⟩
theorem stab_ZR {k : Nat} : Stab Stood (ZR k) := fun v w w' ⟨q, d, e, hd, hq⟩ h => ⟨q, d, e, hd, (h.block q (Array.getElem?_eq_some_iff.1 hq).1).trans hq⟩
theorem zeros_bad (k : Nat) : (List.replicate k ((0 : Int), 0#64)).any badW = false := by
  rw [List.any_eq_false]
  intro x hx
  rw [(List.mem_replicate.1 hx).2]
  decide
theorem recX_zeros (k : Nat) (h : k ≤ 400) : (recX 1#64 (List.replicate k (0, 0#64))).length = 3 + 2 * k := by
  unfold recX recW
  rw [if_neg (by rw [List.length_replicate]; omega), if_neg (by rw [zeros_bad]; simp), List.length_append, recL_len, List.length_replicate]
  simp; omega
/-- How many writes there is room for. -/
def roomN (N : Nat) : Nat := min ((8 * N - 11) / 2) 400
theorem room_num (N : Nat) (h : 1 ≤ N) : min (max (((N : Int) * 8 - 8 - 3).tdiv 2) 0) 400 = (roomN N : Int) := by
  unfold roomN
  by_cases h1 : N = 1
  · subst h1; decide
  · rw [Int.tdiv_eq_ediv_of_nonneg (by omega)]
    omega
theorem rg_newA (N : Nat) : Rg 1 0 (Wl (List.replicate (8 * N) 0#64)) N True (newA N) := fromA_rg 1 0 _ N (by simp)
theorem wl_zero (n p : Nat) : Wl (List.replicate n 0#64) p = 0#64 := by
  unfold Wl
  rw [List.getD_eq_getElem?_getD, List.getElem?_replicate]
  split <;> rfl
theorem newA_clean (N : Nat) : Clean (newA N) := fromA_clean _ _
theorem newA_cnt (N : Nat) : (newA N).cnt 0 := fromA_cnt _ _
/-- One write too many is not kept. -/
theorem keep_much (N : Nat) (h : 1 ≤ N) : (newA (N + 2)).keepB 1 N 1#64 (List.replicate (roomN N + 1) (0, 0#64)) = (newA (N + 2), 1) := by
  unfold AM.keepB
  rw [if_pos]
  by_cases h4 : roomN N + 1 ≤ 400
  · right
    rw [recX_zeros _ h4]
    unfold roomN at *
    omega
  · left
    unfold recX
    rw [if_pos (by rw [List.length_replicate]; omega)]; rfl
theorem keep_room (N : Nat) (h : 2 ≤ N) : ∃ a, (newA (N + 2)).keepB 1 N 1#64 (List.replicate (roomN N) (0, 0#64)) = (a, 0) ∧ a.off = false ∧ Clean a ∧ a.ls.length = N + 2 ∧ readR (a.allOf 1 (8 * N)) = some (1#64, List.replicate (roomN N) (0, 0#64)) := by
  have hr : roomN N ≤ 400 := Nat.min_le_right _ _
  have hl := recX_zeros (roomN N) hr
  have hl2 : 8 + (recX 1#64 (List.replicate (roomN N) (0, 0#64))).length ≤ 8 * N := by rw [hl]; unfold roomN; omega
  rcases keep_law (F := 1) (M := N) (num := 1#64) (ws := List.replicate (roomN N) (0, 0#64)) (newA_clean (N + 2)) (rg_newA (N + 2)) (by omega) hl2 (by omega) (wl_zero _ _) with ⟨_, _, _, k, _⟩ | ⟨k1, k2, k3⟩
  · exact absurd trivial k
  · exact ⟨_, Prod.ext rfl k1, k3.on, k2, k3.len, keep_read (F := 1) (M := N) k3 (by omega) hl2 (by omega)⟩
set_option maxRecDepth 100000 in
set_option maxHeartbeats 8000000 in
theorem BookRoom_walk (z : Int) (w : World) (hz0 : -9223372036854775808 ≤ z) (hz1 : z ≤ 9223372036854775807) :
    Calls Try.prog 13 #[.int .i64 z] w fun e w' => e = .returned (.bool true) ∧ Below w.heap.size w w' := by
  have KA := Lib.hid (fun W => bkAwake_any W)
  by_cases q1 : z < 1
  · skip
    have HW := Lib.hid (Below.refl w.heap.size w)
    go_enter Try.func13, Try.ntmps13
    go_wp2_with fail
    refine (KA.out _).mono ?_
    rintro e w1 ⟨rfl, hb⟩
    have HW := Lib.hid (HW.out.trans (hb.mono HW.out.size))
    clear hb
    go_wp2
    go_ret
    exact ⟨rfl, HW.out⟩
  by_cases q2 : 110 < z
  · skip
    have HW := Lib.hid (Below.refl w.heap.size w)
    go_enter Try.func13, Try.ntmps13
    go_wp2_with fail
    refine (KA.out _).mono ?_
    rintro e w1 ⟨rfl, hb⟩
    have HW := Lib.hid (HW.out.trans (hb.mono HW.out.size))
    clear hb
    go_wp2
    go_ret
    exact ⟨rfl, HW.out⟩
  obtain ⟨N, rfl⟩ := Int.eq_ofNat_of_zero_le (show 0 ≤ z by omega)
  have KBG := Lib.hid (fun W => begun_any N W (by omega) (by omega))
  have hSF : SpFit 1 (N : Int) := ⟨by omega⟩
  have hN1 : 1 ≤ N := by omega
  have KRM := Lib.hid (fun m W => show Calls Try.prog 59 #[bkV m 1 N 3] W (fun e w' => e = .returned (.int .i64 (roomN N : Int)) ∧ Below W.heap.size W w') from by have h9 := bkRoom_any m 1 N 3 W hSF; rw [room_num N hN1] at h9; exact h9)
  have KK1 := Lib.hid (fun m own G L lc W (hm : MemAt W m own G (newA (N + 2))) (hl : RdW W L (List.replicate (roomN N + 1) (0, 0#64))) => bkKeep_any m own G (newA (N + 2)) 1 N 3 1#64 (List.replicate (roomN N + 1) (0, 0#64)) L lc 0 0 W hm (newA_room _ _) (newA_cnt _) (by omega) (by omega) hSF hl)
  have KK2 := Lib.hid (fun m own G L lc W hm hl => bkKeep_any m own G (newA (N + 2)) 1 N 3 1#64 (List.replicate (roomN N) (0, 0#64)) L lc 0 0 W hm (newA_room _ _) (newA_cnt _) (by omega) (by omega) hSF hl)
  have HKR := Lib.hid (fun (h : 2 ≤ N) => keep_room N h)
  have hr4 : roomN N ≤ 400 := Nat.min_le_right _ _
  have HR0 := Lib.hid (show roomN N = 0 ↔ N = 1 by unfold roomN; omega)
  rw [keep_much N hN1] at KK1
  rw [List.length_replicate] at KK1 KK2
  simp only at KK1
  have HW := Lib.hid (Below.refl w.heap.size w)
  go_enter Try.func13, Try.ntmps13
  go_wp2_with fail
  refine (KA.out _).mono ?_
  rintro e w1 ⟨rfl, hb⟩
  have HW := Lib.hid (HW.out.trans (hb.mono HW.out.size))
  clear hb
  go_wp2_with fail
  refine (KBG.out _).mono ?_
  rintro e w2 ⟨⟨m, own, G, rfl, hm, hlow⟩, hb⟩
  have HLOW := Lib.hid (fun k (hk : k < w.heap.size) => hlow k (Nat.lt_of_lt_of_le hk HW.out.size))
  have HW := Lib.hid (HW.out.trans (hb.mono HW.out.size))
  have HM := Lib.hid hm
  clear hm hlow hb
  unfold bkV at *
  generalize newA (N + 2) = a0 at KK1 KK2 HKR HM
  generalize roomN N = k at *
  have HB := Lib.hid (heap_alloc_new w2 (.cells #[.pointer (some ⟨m, 0, none⟩), .int .i64 1, .int .i64 (N : Int), .int .i64 3] 72))
  have HBz := Lib.hid (HM.out.fresh _ (Nat.le_refl _))
  have hba : Below w2.heap.size w2 (w2.alloc (.cells #[.pointer (some ⟨m, 0, none⟩), .int .i64 1, .int .i64 (N : Int), .int .i64 3] 72)) := (Below.refl _ _).alloc (Nat.le_refl _) _
  have HW := Lib.hid (HW.out.trans (hba.mono HW.out.size))
  have HM := Lib.hid (HM.out.below hba)
  clear hba
  have kc0 := Lib.cell_of_heap HB.out 0
  have kc1 := Lib.cell_of_heap HB.out 1
  have kc2 := Lib.cell_of_heap HB.out 2
  have kc3 := Lib.cell_of_heap HB.out 3
  go_wp2_with fail
  refine (KRM.out m _).mono ?_
  rintro e w3 ⟨rfl, hb⟩
  have HW := Lib.hid (HW.out.trans (hb.mono HW.out.size))
  have HM := Lib.hid (HM.out.below hb)
  have HB := Lib.hid (heap_below HB.out hb)
  clear hb
  clear kc0 kc1 kc2 kc3
  have kc0 := Lib.cell_of_heap HB.out 0
  have kc1 := Lib.cell_of_heap HB.out 1
  have kc2 := Lib.cell_of_heap HB.out 2
  have kc3 := Lib.cell_of_heap HB.out 3
  go_wp2_with fail
  have e1 : IntKind.i64.wrap ((k : Int) + 1) = ((k : Int) + 1) := IntWalk.i64_in _ (by omega)
  have hmk := fun (W : World) => show (Instr.makeSlice 75 (.int .i64 ((k : Int) + 1)) (.int .i64 ((k : Int) + 1))).run Try.prog W = .ok (.slice (some ⟨W.heap.size, 0, none⟩) (k + 1) (k + 1)) (W.alloc (.cells (madeCells #[.int .i64 0, .int .u64 0] ((k + 1) * 2)) 88)) from make_W (k + 1) (by omega) W
  apply wp_region_tail 75 5 (Eqs _ :: Eqs _ :: Eqs _ :: (ZW (k + 1)) :: (ZR (k + 1)) :: []) rfl (by kernel_rfl) (by rfl) (stab_cons (stab_eq _) (stab_cons (stab_eq _) (stab_cons (stab_eq _) (stab_cons stab_ZW (stab_cons stab_ZR stab_nil))))) (by kernel_rfl) (by kernel_rfl) (by kernel_rfl) (by kernel_rfl)
  case hstep =>
    simp only [List.take_succ_cons, List.take_zero]
    refine StepsOK.cons ?_ ?_
    · -- 0: Go.Op.load 72 (Go.Operand.tmp 3)
      intro a w1 hR1 hF hU hsz
      have e3 : a.eval (.tmp 3) = _ := hU 3 (by kernel_rfl)
      rw [if_pos (by rfl)]
      intro K hK
      clear hF hU hsz
      have k0_ := ((Stood.cur hR1).cell (cell_lt kc0)).trans kc0
      have k1_ := ((Stood.cur hR1).cell (cell_lt kc1)).trans kc1
      have k2_ := ((Stood.cur hR1).cell (cell_lt kc2)).trans kc2
      have k3_ := ((Stood.cur hR1).cell (cell_lt kc3)).trans kc3
      obtain ⟨q1, q2, q3⟩ := eval_rest a
      generalize hρ : a.eval = ρ
      rw [hρ] at q1 q2 q3 e3
      clear hρ
      have u1 := OpUp_value Try.prog K
      have u2 := OpUp_enter Try.prog K
      go_simp
      exact hK _ _ (Stood.refl _) rfl
    refine StepsOK.cons ?_ ?_
    · -- 1: Go.Op.move (Go.Operand.tmp 6)
      intro a w1 hR1 hF hU hsz
      have e6 : a.eval (.tmp 6) = _ := hU 6 (by kernel_rfl)
      rw [if_pos (by rfl)]
      intro K hK
      clear hF hU hsz
      obtain ⟨q1, q2, q3⟩ := eval_rest a
      generalize hρ : a.eval = ρ
      rw [hρ] at q1 q2 q3 e6
      clear hρ
      have u1 := OpUp_value Try.prog K
      have u2 := OpUp_enter Try.prog K
      go_simp
      exact hK _ _ (Stood.refl _) rfl
    refine StepsOK.cons ?_ ?_
    · -- 2: Go.Op.binOp Go.BinOp.add 3 (Go.Operand.tmp 37) (Go.Operand.const (Go.Value.int G
      intro a w1 hR1 hF hU hsz
      have e37 : a.eval (.tmp 37) = _ := hF 1 _ _ rfl rfl (by kernel_rfl)
      rw [if_pos (by rfl)]
      intro K hK
      clear hF hU hsz
      obtain ⟨q1, q2, q3⟩ := eval_rest a
      generalize hρ : a.eval = ρ
      rw [hρ] at q1 q2 q3 e37
      clear hρ
      have u1 := OpUp_value Try.prog K
      have u2 := OpUp_enter Try.prog K
      go_simp
      exact hK _ _ (Stood.refl _) rfl
    refine StepsOK.cons ?_ ?_
    · -- 3: Go.Op.makeSlice 75 (Go.Operand.tmp 38) (Go.Operand.tmp 38)
      intro a w1 hR1 hF hU hsz
      have e38 : a.eval (.tmp 38) = _ := hF 2 _ _ rfl rfl (by kernel_rfl)
      rw [if_pos (by rfl)]
      intro K hK
      clear hF hU hsz
      obtain ⟨q1, q2, q3⟩ := eval_rest a
      generalize hρ : a.eval = ρ
      rw [hρ] at q1 q2 q3 e38
      clear hρ
      have u1 := OpUp_value Try.prog K
      have u2 := OpUp_enter Try.prog K
      go_simp
      exact hK _ _ ((Below.refl _ _).alloc (Nat.le_refl _) _) ⟨_, 0, rfl, rfl, heap_alloc_new w1 _⟩
    refine StepsOK.cons ?_ ?_
    · -- 4: Go.Op.build 77 #[(0, Go.Operand.const (Go.Value.int Go.IntKind.u64 1)), (1, Go.O
      intro a w1 hR1 hF hU hsz
      have e39 := hF 3 _ _ rfl rfl (by kernel_rfl)
      obtain ⟨B39, d39, e39, r39⟩ := e39
      have e39 : a.eval (.tmp 39) = _ := e39
      rw [if_pos (by rfl)]
      intro K hK
      clear hF hU hsz
      obtain ⟨q1, q2, q3⟩ := eval_rest a
      generalize hρ : a.eval = ρ
      rw [hρ] at q1 q2 q3 e39
      clear hρ
      have u1 := OpUp_value Try.prog K
      have u2 := OpUp_enter Try.prog K
      go_simp
      exact hK _ _ (Stood.refl _) ⟨B39, 0, rfl, rfl, r39.2⟩
    exact StepsOK.nil
  case hend =>
    intro vs0 w1 hR1 hH0
    obtain ⟨vs1, rfl, hH1⟩ := hH0.eq_
    obtain ⟨vs2, rfl, hH2⟩ := hH1.eq_
    obtain ⟨vs3, rfl, hH3⟩ := hH2.eq_
    obtain ⟨v3, vs4, rfl, hv3, hH4⟩ := hH3.cons
    obtain ⟨v4, vs5, rfl, hv4, hH5⟩ := hH4.cons
    obtain rfl := hH5.nil
    clear hH0 hH1 hH2 hH3 hH4 hH5
    simp only [List.take_succ_cons, List.take_zero, putAll, Act.put, List.setIfInBounds_toArray, List.set_cons_zero, List.set_cons_succ]
    obtain ⟨_, _, rfl, _, _⟩ := hv3
    obtain ⟨q9, _, rfl, rfl, hq9⟩ := hv4
    have hb := Stood.cur hR1
    have HQ9 := Lib.hid (rdW_made hq9)
    clear kc0 kc1 kc2 kc3 hmk hq9
    have HW := Lib.hid (HW.out.trans (hb.mono HW.out.size))
    have HM := Lib.hid (HM.out.below hb)
    have HB := Lib.hid (heap_below HB.out hb)
    clear hb
    clear hR1
    have kc0 := Lib.cell_of_heap HB.out 0
    have kc1 := Lib.cell_of_heap HB.out 1
    have kc2 := Lib.cell_of_heap HB.out 2
    have kc3 := Lib.cell_of_heap HB.out 3
    go_wp2_with fail
    refine (KK1.out m _ G _ _ _ HM.out HQ9.out).mono ?_
    rintro e w4 ⟨rfl, own1, hm2, hfr⟩
    have HLOWn := Lib.hid (hfr.low HW.out.size HLOW.out)
    have HW := Lib.hid (HW.out.trans (hfr.below HW.out.size HLOW.out))
    obtain ⟨hx_, hz_⟩ := hfr.heap HB.out HBz.out
    have HB := Lib.hid hx_
    have HBz := Lib.hid hz_
    clear hx_ hz_
    have HM := Lib.hid hm2
    clear hm2 hfr
    have HLOW := HLOWn
    clear HLOWn
    clear kc0 kc1 kc2 kc3 KK1 HQ9
    by_cases h0 : k = 0
    · have hN : (N : Int) ≤ 1 := by have := HR0.out.1 h0; omega
      have hk0 : ((k : Int) == 0) = true := by rw [beq_iff_eq]; omega
      go_wp2
      go_ret
      exact ⟨rfl, HW.out⟩
    have hN : 2 ≤ N := by have := HR0.out; omega
    have hk0 : ((k : Int) == 0) = false := by rw [beq_eq_false_iff_ne]; omega
    obtain ⟨a1, hk1, hoff, hcl, hlen, hread⟩ := HKR.out hN
    rw [hk1] at KK2
    simp only at KK2
    have KRD := Lib.hid (fun own W (hm : MemAt W m own G a1) => bkRead_on m own G a1 1 N 3 W hm (room_mono hcl.room (by omega)) hSF hoff (by rw [hlen]; omega))
    have htell : rtell (a1.allOf 1 (8 * N)) = (1#64, List.replicate k (0, 0#64)) := by unfold rtell; rw [hread]; rfl
    unfold RdPost at KRD
    rw [hread, htell] at KRD
    simp only [List.length_replicate, Option.isSome_some] at KRD
    unfold bkV at KRD
    clear hk1 hoff hcl hlen hread htell HKR h0
    have kc0 := Lib.cell_of_heap HB.out 0
    have kc1 := Lib.cell_of_heap HB.out 1
    have kc2 := Lib.cell_of_heap HB.out 2
    have kc3 := Lib.cell_of_heap HB.out 3
    go_wp2_with fail
    have hmk := fun (W : World) => show (Instr.makeSlice 75 (.int .i64 (k : Int)) (.int .i64 (k : Int))).run Try.prog W = .ok (.slice (some ⟨W.heap.size, 0, none⟩) k k) (W.alloc (.cells (madeCells #[.int .i64 0, .int .u64 0] (k * 2)) 88)) from make_W k (by omega) W
    apply wp_region_tail 75 4 (Eqs _ :: Eqs _ :: (ZW k) :: (ZR k) :: []) rfl (by kernel_rfl) (by rfl) (stab_cons (stab_eq _) (stab_cons (stab_eq _) (stab_cons stab_ZW (stab_cons stab_ZR stab_nil)))) (by kernel_rfl) (by kernel_rfl) (by kernel_rfl) (by kernel_rfl)
    case hstep =>
      simp only [List.take_succ_cons, List.take_zero]
      refine StepsOK.cons ?_ ?_
      · -- 0: Go.Op.load 72 (Go.Operand.tmp 3)
        intro a w1 hR1 hF hU hsz
        have e3 : a.eval (.tmp 3) = _ := hU 3 (by kernel_rfl)
        rw [if_pos (by rfl)]
        intro K hK
        clear hF hU hsz
        have k0_ := ((Stood.cur hR1).cell (cell_lt kc0)).trans kc0
        have k1_ := ((Stood.cur hR1).cell (cell_lt kc1)).trans kc1
        have k2_ := ((Stood.cur hR1).cell (cell_lt kc2)).trans kc2
        have k3_ := ((Stood.cur hR1).cell (cell_lt kc3)).trans kc3
        obtain ⟨q1, q2, q3⟩ := eval_rest a
        generalize hρ : a.eval = ρ
        rw [hρ] at q1 q2 q3 e3
        clear hρ
        have u1 := OpUp_value Try.prog K
        have u2 := OpUp_enter Try.prog K
        go_simp
        exact hK _ _ (Stood.refl _) rfl
      refine StepsOK.cons ?_ ?_
      · -- 1: Go.Op.move (Go.Operand.tmp 6)
        intro a w1 hR1 hF hU hsz
        have e6 : a.eval (.tmp 6) = _ := hU 6 (by kernel_rfl)
        rw [if_pos (by rfl)]
        intro K hK
        clear hF hU hsz
        obtain ⟨q1, q2, q3⟩ := eval_rest a
        generalize hρ : a.eval = ρ
        rw [hρ] at q1 q2 q3 e6
        clear hρ
        have u1 := OpUp_value Try.prog K
        have u2 := OpUp_enter Try.prog K
        go_simp
        exact hK _ _ (Stood.refl _) rfl
      refine StepsOK.cons ?_ ?_
      · -- 2: Go.Op.makeSlice 75 (Go.Operand.tmp 49) (Go.Operand.tmp 49)
        intro a w1 hR1 hF hU hsz
        have e49 : a.eval (.tmp 49) = _ := hF 1 _ _ rfl rfl (by kernel_rfl)
        rw [if_pos (by rfl)]
        intro K hK
        clear hF hU hsz
        obtain ⟨q1, q2, q3⟩ := eval_rest a
        generalize hρ : a.eval = ρ
        rw [hρ] at q1 q2 q3 e49
        clear hρ
        have u1 := OpUp_value Try.prog K
        have u2 := OpUp_enter Try.prog K
        go_simp
        exact hK _ _ ((Below.refl _ _).alloc (Nat.le_refl _) _) ⟨_, 0, rfl, rfl, heap_alloc_new w1 _⟩
      refine StepsOK.cons ?_ ?_
      · -- 3: Go.Op.build 77 #[(0, Go.Operand.const (Go.Value.int Go.IntKind.u64 1)), (1, Go.O
        intro a w1 hR1 hF hU hsz
        have e50 := hF 2 _ _ rfl rfl (by kernel_rfl)
        obtain ⟨B50, d50, e50, r50⟩ := e50
        have e50 : a.eval (.tmp 50) = _ := e50
        rw [if_pos (by rfl)]
        intro K hK
        clear hF hU hsz
        obtain ⟨q1, q2, q3⟩ := eval_rest a
        generalize hρ : a.eval = ρ
        rw [hρ] at q1 q2 q3 e50
        clear hρ
        have u1 := OpUp_value Try.prog K
        have u2 := OpUp_enter Try.prog K
        go_simp
        exact hK _ _ (Stood.refl _) ⟨B50, 0, rfl, rfl, r50.2⟩
      exact StepsOK.nil
    case hend =>
      intro vs0 w1 hR1 hH0
      obtain ⟨vs1, rfl, hH1⟩ := hH0.eq_
      obtain ⟨vs2, rfl, hH2⟩ := hH1.eq_
      obtain ⟨v2, vs3, rfl, hv2, hH3⟩ := hH2.cons
      obtain ⟨v3, vs4, rfl, hv3, hH4⟩ := hH3.cons
      obtain rfl := hH4.nil
      clear hH0 hH1 hH2 hH3 hH4
      simp only [List.take_succ_cons, List.take_zero, putAll, Act.put, List.setIfInBounds_toArray, List.set_cons_zero, List.set_cons_succ]
      obtain ⟨_, _, rfl, _, _⟩ := hv2
      obtain ⟨q9, _, rfl, rfl, hq9⟩ := hv3
      have hb := Stood.cur hR1
      have HQ9 := Lib.hid (rdW_made hq9)
      clear kc0 kc1 kc2 kc3 hmk hq9
      have HW := Lib.hid (HW.out.trans (hb.mono HW.out.size))
      have HM := Lib.hid (HM.out.below hb)
      have HB := Lib.hid (heap_below HB.out hb)
      clear hb
      clear hR1
      have kc0 := Lib.cell_of_heap HB.out 0
      have kc1 := Lib.cell_of_heap HB.out 1
      have kc2 := Lib.cell_of_heap HB.out 2
      have kc3 := Lib.cell_of_heap HB.out 3
      go_wp2_with fail
      refine (KK2.out m _ G _ _ _ HM.out HQ9.out).mono ?_
      rintro e w5 ⟨rfl, own2, hm2, hfr⟩
      have HLOWn := Lib.hid (hfr.low HW.out.size HLOW.out)
      have HW := Lib.hid (HW.out.trans (hfr.below HW.out.size HLOW.out))
      obtain ⟨hx_, hz_⟩ := hfr.heap HB.out HBz.out
      have HB := Lib.hid hx_
      have HBz := Lib.hid hz_
      clear hx_ hz_
      have HM := Lib.hid hm2
      clear hm2 hfr
      have HLOW := HLOWn
      clear HLOWn
      clear kc0 kc1 kc2 kc3 KK2 HQ9
      have kc0 := Lib.cell_of_heap HB.out 0
      have kc1 := Lib.cell_of_heap HB.out 1
      have kc2 := Lib.cell_of_heap HB.out 2
      have kc3 := Lib.cell_of_heap HB.out 3
      go_wp2_with fail
      refine (KRD.out _ _ HM.out).mono ?_
      rintro e w6 ⟨⟨B, d, rfl, _⟩, hb⟩
      have HW := Lib.hid (HW.out.trans (hb.mono HW.out.size))
      clear hb KRD kc0 kc1 kc2 kc3
      have HW := Lib.hid (HW.out.alloc HW.out.size (.cells #[U 1#64, .slice B k d] 77))
      have hkk : ((k : Int) == (k : Int)) = true := by simp
      go_wp2
      go_ret
      exact ⟨rfl, HW.out⟩
end Go.Proofs.Ytoifejinppjeeaa
