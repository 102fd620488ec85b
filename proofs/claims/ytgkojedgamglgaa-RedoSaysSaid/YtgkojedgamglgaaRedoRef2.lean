/- The walk of the reference's GetRec. Condition: the words can be read. -/
import Derived.Test.YtgkojedgamglgaaRedoRef
namespace Go.Proofs.Ytgkojedgamglgaa
open Go.RowKit
set_option linter.unusedVariables false
set_option linter.unusedSimpArgs false
/-- The result's block, written. -/
theorem res_set2 {W : World} {S : Nat} {T : TypeId} {a b : Value} (h0 : W.heap[S]? = some (.cells #[a, b] T (0, 0))) (n v : Value) :
    ((W.setCell ⟨S, 0, none⟩ n).setCell ⟨S, 1, none⟩ v).heap[S]? = some (.cells #[n, v] T (0, 0)) := by
  have k0 := heap_set1 1 (heap_set1 0 h0 n) v
  simp only [List.setIfInBounds_toArray, List.set_cons_zero, List.set_cons_succ] at k0
  exact k0
set_option maxRecDepth 100000 in
set_option maxHeartbeats 8000000 in
theorem rfGet_any (xs : List (BitVec 64)) (A : Option Addr) (c : Nat) (w : World) (hr : RdU w A xs) (hc : xs.length ≤ c) (hm : c ≤ maxLen) :
    Calls Try.prog 45 #[.slice A xs.length c] w fun e w' => GetPost xs e w' ∧ Below w.heap.size w w' := by
  have hm' := hm
  unfold maxLen at hm'
  have HR := Lib.hid hr
  clear hr
  have HW := Lib.hid ((Below.refl w.heap.size w).alloc (Nat.le_refl _) (.cells #[.int .u64 0, .slice none 0 0] 72))
  have HRX := Lib.hid (heap_alloc_new w (.cells #[.int .u64 0, .slice none 0 0] 72))
  have HWZ := Lib.hid ((HW.out.setCell (p := ⟨w.heap.size, 0, none⟩) (Nat.le_refl _) (.int .u64 0)).setCell (p := ⟨w.heap.size, 1, none⟩) (Nat.le_refl _) (.slice none 0 0))
  have HZ := Lib.hid (fun (h : getR xs = none) => show (gtell xs).1 = 0#64 ∧ (gtell xs).2 = [] ∧ (getR xs).isSome = false by unfold gtell; rw [h]; exact ⟨rfl, rfl, rfl⟩)
  by_cases hl : xs.length < 3
  · skip
    obtain ⟨hz1, hz2, hz3⟩ := HZ.out (by exact getR_none1 hl)
    have HZ1 := Lib.hid hz1
    have HZ2 := Lib.hid hz2
    have HZ3 := Lib.hid hz3
    clear hz1 hz2 hz3 HZ
    have hl2 : (xs.length : Int) < 3 := by omega
    clear hl
    go_enter Try.func45, Try.ntmps45
    go_wp2
    refine bodyPost_ret (v := .tuple #[.agg #[U 0#64, .slice none 0 0], .bool false]) ?_ rfl ⟨⟨none, 0, by rw [HZ1.out, HZ2.out, HZ3.out]; rfl, by rw [HZ2.out]; exact RdW.nil_⟩, by first | exact HW.out | exact HWZ.out⟩
    unfold results
    rw [show Try.f45.results = #[.cell 2 72, .tmp 3] from rfl]
    go_simp
    try rfl
  obtain ⟨b, off, rfl, hcell⟩ := (HR.out.below HW.out).at_ (show 0 < xs.length by omega)
  have HC := Lib.hid hcell
  clear hcell
  have hc0 := HC.out 0 (by omega)
  have hc1 := HC.out 1 (by omega)
  have g0 : xs.getD 0 0#64 = xs[0] := by rw [List.getD_eq_getElem?_getD, List.getElem?_eq_getElem (by omega)]; rfl
  have g1 : xs.getD 1 0#64 = xs[1] := by rw [List.getD_eq_getElem?_getD, List.getElem?_eq_getElem (by omega)]; rfl
  generalize hx0 : xs[0]'(by omega) = x0 at *
  generalize hx1 : xs[1]'(by omega) = x1 at *
  clear hx0 hx1
  rw [Nat.add_zero] at hc0
  have hl2 : ¬ (xs.length : Int) < 3 := by omega
  have hi1 : (1 : Int) < (xs.length : Int) := by omega
  have hi0 : (0 : Int) < (xs.length : Int) := by omega
  by_cases h0 : x0 = 0#64
  · skip
    obtain ⟨hz1, hz2, hz3⟩ := HZ.out (by exact getR_none2 (by rw [g0, h0]))
    have HZ1 := Lib.hid hz1
    have HZ2 := Lib.hid hz2
    have HZ3 := Lib.hid hz3
    clear hz1 hz2 hz3 HZ
    have hv1 : (x0 == 0#64) = true := by rw [h0]; rfl
    have hv2 : (x0 == BitVec.ofInt 64 0) = true := hv1
    clear h0 hl g0 g1
    go_enter Try.func45, Try.ntmps45
    go_wp2
    refine bodyPost_ret (v := .tuple #[.agg #[U 0#64, .slice none 0 0], .bool false]) ?_ rfl ⟨⟨none, 0, by rw [HZ1.out, HZ2.out, HZ3.out]; rfl, by rw [HZ2.out]; exact RdW.nil_⟩, by first | exact HW.out | exact HWZ.out⟩
    unfold results
    rw [show Try.f45.results = #[.cell 2 72, .tmp 3] from rfl]
    go_simp
    try rfl
  have hv1 : (x0 == 0#64) = false := by rw [beq_eq_false_iff_ne]; exact h0
  have hv2 : (x0 == BitVec.ofInt 64 0) = false := hv1
  by_cases h4 : 400#64 < x1
  · skip
    obtain ⟨hz1, hz2, hz3⟩ := HZ.out (by exact getR_none3 (by rw [g1]; exact h4))
    have HZ1 := Lib.hid hz1
    have HZ2 := Lib.hid hz2
    have HZ3 := Lib.hid hz3
    clear hz1 hz2 hz3 HZ
    have h5 : BitVec.ofInt 64 400 < x1 := h4
    clear h0 hl g0 g1
    go_enter Try.func45, Try.ntmps45
    go_wp2
    refine bodyPost_ret (v := .tuple #[.agg #[U 0#64, .slice none 0 0], .bool false]) ?_ rfl ⟨⟨none, 0, by rw [HZ1.out, HZ2.out, HZ3.out]; rfl, by rw [HZ2.out]; exact RdW.nil_⟩, by first | exact HW.out | exact HWZ.out⟩
    unfold results
    rw [show Try.f45.results = #[.cell 2 72, .tmp 3] from rfl]
    go_simp
    try rfl
  have h5 : ¬ BitVec.ofInt 64 400 < x1 := h4
  obtain ⟨N, hN⟩ : ∃ N, x1.toNat = N := ⟨_, rfl⟩
  have hNl : N ≤ 400 := by
    have h9 : ¬ (400#64).toNat < x1.toNat := fun h => h4 (BitVec.lt_def.2 h)
    rw [hN] at h9
    have : (400#64).toNat = 400 := rfl
    omega
  have hti : x1.toInt = (N : Int) := by rw [BitVec.toInt_eq_toNat_of_lt (by omega), hN]
  have HGN := Lib.hid (show gN xs = N by unfold gN; rw [g1, hN])
  have hcmp : ∀ P : Prop, (xs.length < 3 + 2 * N ↔ P) → (BitVec.ofInt 64 (xs.length : Int) < BitVec.ofInt 64 3 + BitVec.ofInt 64 2 * x1 ↔ P) := fun P h => by
    rw [← h, BitVec.lt_def, BitVec.ofInt_natCast, BitVec.toNat_ofNat, BitVec.toNat_add, BitVec.toNat_mul, hN]
    have e1 : (BitVec.ofInt 64 3).toNat = 3 := rfl
    have e2 : (BitVec.ofInt 64 2).toNat = 2 := rfl
    rw [e1, e2]
    omega
  have hcmp2 : BitVec.ofInt 64 3 + BitVec.ofInt 64 2 * x1 = 3#64 + 2#64 * x1 := rfl
  by_cases h6 : xs.length < 3 + 2 * N
  · skip
    obtain ⟨hz1, hz2, hz3⟩ := HZ.out (by exact getR_none4 (by rw [HGN.out]; exact h6))
    have HZ1 := Lib.hid hz1
    have HZ2 := Lib.hid hz2
    have HZ3 := Lib.hid hz3
    clear hz1 hz2 hz3 HZ
    have h7 : BitVec.ofNat 64 xs.length < 3#64 + 2#64 * x1 := (hcmp True (by simpa using h6)).2 trivial
    have h8 : BitVec.ofInt 64 (xs.length : Int) < BitVec.ofInt 64 3 + BitVec.ofInt 64 2 * x1 := h7
    have h9 : decide (BitVec.ofInt 64 (xs.length : Int) < BitVec.ofInt 64 3 + BitVec.ofInt 64 2 * x1) = true := decide_eq_true h8
    clear h0 hl g0 g1 h6 HGN hcmp hcmp2
    go_enter Try.func45, Try.ntmps45
    go_wp2
    refine bodyPost_ret (v := .tuple #[.agg #[U 0#64, .slice none 0 0], .bool false]) ?_ rfl ⟨⟨none, 0, by rw [HZ1.out, HZ2.out, HZ3.out]; rfl, by rw [HZ2.out]; exact RdW.nil_⟩, by first | exact HW.out | exact HWZ.out⟩
    unfold results
    rw [show Try.f45.results = #[.cell 2 72, .tmp 3] from rfl]
    go_simp
    try rfl
  have h7 : ¬ BitVec.ofNat 64 xs.length < 3#64 + 2#64 * x1 := fun h => (hcmp False (by simpa using h6)).1 h
  have h8 : ¬ BitVec.ofInt 64 (xs.length : Int) < BitVec.ofInt 64 3 + BitVec.ofInt 64 2 * x1 := h7
  have hd9 : decide (BitVec.ofInt 64 (xs.length : Int) < BitVec.ofInt 64 3 + BitVec.ofInt 64 2 * x1) = false := decide_eq_false h8
  clear hcmp hcmp2
  have HB1 := Lib.hid (HW.out.alloc HW.out.size (.cells #[U x0, .slice none 0 0] 72))
  have HRX1 := Lib.hid (heap_below HRX.out ((Below.refl _ _).alloc (Nat.le_refl _) (.cells #[U x0, .slice none 0 0] 72)))
  have HQ1 := Lib.hid (show ((w.alloc (.cells #[.int .u64 0, .slice none 0 0] 72)).alloc (.cells #[U x0, .slice none 0 0] 72)).heap[w.heap.size + 1]? = some (.cells #[U x0, .slice none 0 0] 72 (0, 0)) by have h := heap_alloc_new (w.alloc (.cells #[.int .u64 0, .slice none 0 0] 72)) (.cells #[U x0, .slice none 0 0] 72); rwa [World.size_alloc] at h)
  have hcx := (HR.out.below HB1.out)
  have HCX := Lib.hid (fun (k : Nat) (hk : k < xs.length) (W : World) (hb : Below w.heap.size w W) => show W.cell? ⟨b, off + k, none⟩ = some (U (xs.getD k 0#64)) by
    have e : xs.getD k 0#64 = xs[k] := by rw [List.getD_eq_getElem?_getD, List.getElem?_eq_getElem hk]; rfl
    rw [e]
    rcases HR.out.below hb with h9 | ⟨b9, off9, e9, hc9⟩
    · rw [h9] at hk; simp at hk
    · injection e9 with e9; injection e9 with e91 e92 _; subst e91 e92
      exact hc9 k hk)
  have hy1 := HCX.out 1 (by omega) _ HB1.out
  rw [g1] at hy1
  have htl : (xs.take (3 + 2 * N)).length = 3 + 2 * N := by rw [List.length_take]; omega
  have KF := Lib.hid (fun (W : World) (h : RdU W (some ⟨b, off, none⟩) xs) => show Calls Try.prog 86 #[.slice (some ⟨b, off, none⟩) (3 + 2 * N) c] W (fun e w' => e = .returned (.bool (sealFits (xs.take (3 + 2 * N)))) ∧ Below W.heap.size W w') by
    have h9 := refFits_any (xs.take (3 + 2 * N)) (some ⟨b, off, none⟩) c W (h.take _) (by rw [htl]; unfold maxLen; omega) (by rw [htl]; omega)
    rw [htl] at h9
    refine h9.mono ?_
    intro e w' h
    first | exact h | exact ⟨h.1, h.2.below _⟩)
  clear htl
  go_enter Try.func45, Try.ntmps45
  go_wp2
  generalize (w.alloc (.cells #[.int .u64 0, .slice none 0 0] 72)).alloc (.cells #[U x0, .slice none 0 0] 72) = w1 at *
  clear hc0 hc1 hy1 hcx HW HRX
  go_loopw [6] (fun i wr => ∃ (k : Nat) (A : Option Addr) (d : Nat), k ≤ N ∧ i = .int .i64 k ∧ gAny xs k = false ∧ wr.heap[w.heap.size + 1]? = some (.cells #[U x0, .slice A k d] 72 (0, 0)) ∧ OwnW 70 wr (w.heap.size + 2) A (gws xs k) d ∧ wr.heap[w.heap.size]? = some (.cells #[.int .u64 0, .slice none 0 0] 72 (0, 0)) ∧ Below w.heap.size w wr) (fun i _ => N - (intOf i).toNat)
  case atStart => exact ⟨0, none, 0, Nat.zero_le _, rfl, rfl, HQ1.out, OwnW.nil_ _ _, HRX1.out, HB1.out⟩
  case round =>
    clear HQ1 HRX1 HB1
    obtain ⟨k, A, d, hk, rfl, hny, hq, ho, hrx, hb⟩ := hrel
    have HNY := Lib.hid hny
    have HQ := Lib.hid hq
    have HO := Lib.hid ho
    have HRX := Lib.hid hrx
    have HB := Lib.hid hb
    have hgl := gws_len xs k
    have HGL := Lib.hid hgl
    clear hny hq ho hrx hb hgl
    have y0 := Lib.cell_of_heap HRX.out 0
    have y1 := Lib.cell_of_heap HRX.out 1
    have z0 := Lib.frozen_of_heap HRX.out 0
    have z1 := Lib.frozen_of_heap HRX.out 1
    have HWZ := Lib.hid ((HB.out.setCell (p := ⟨w.heap.size, 0, none⟩) (Nat.le_refl _) (.int .u64 0)).setCell (p := ⟨w.heap.size, 1, none⟩) (Nat.le_refl _) (.slice none 0 0))
    have HRR := Lib.hid (res_set2 HRX.out (.int .u64 0) (.slice none 0 0))
    have r0 := Lib.cell_of_heap HRR.out 0
    have r1 := Lib.cell_of_heap HRR.out 1
    by_cases hlt : k < N
    · have k0 := HCX.out (2 + 2 * k) (by omega) _ HB.out
      have k1 := HCX.out (3 + 2 * k) (by omega) _ HB.out
      have HBG := Lib.hid (show gBig xs k = decide (1048576#64 < xs.getD (2 + 2 * k) 0#64) from rfl)
      have HAT := Lib.hid (show gAt xs k = (((xs.getD (2 + 2 * k) 0#64).toNat : Int), xs.getD (3 + 2 * k) 0#64) from rfl)
      have HANY := Lib.hid (fun (h : gBig xs k = true) => gAny_of h hlt)
      have HNS := Lib.hid (gAny_succ xs k)
      have HGS := Lib.hid (gws_succ xs k)
      generalize xs.getD (2 + 2 * k) 0#64 = v0 at *
      generalize xs.getD (3 + 2 * k) 0#64 = v1 at *
      have e1 : IntKind.i64.wrap (2 * (k : Int)) = 2 * (k : Int) := IntWalk.i64_in _ (by omega)
      have e2 : IntKind.i64.wrap (2 + 2 * (k : Int)) = 2 + 2 * (k : Int) := IntWalk.i64_in _ (by omega)
      have e3 : IntKind.i64.wrap (3 + 2 * (k : Int)) = 3 + 2 * (k : Int) := IntWalk.i64_in _ (by omega)
      have e4 : (2 + 2 * (k : Int)).toNat = 2 + 2 * k := by omega
      have e5 : (3 + 2 * (k : Int)).toNat = 3 + 2 * k := by omega
      have e6 : IntKind.i64.wrap ((k : Int) + 1) = (k : Int) + 1 := IntWalk.i64_in _ (by omega)
      have i1 : 2 + 2 * (k : Int) < (xs.length : Int) := by omega
      have i2 : 3 + 2 * (k : Int) < (xs.length : Int) := by omega
      have i3 : (0 : Int) ≤ 2 + 2 * (k : Int) := by omega
      have i4 : (0 : Int) ≤ 3 + 2 * (k : Int) := by omega
      by_cases hbig : 1048576#64 < v0
      · have hbig2 : BitVec.ofInt 64 1048576 < v0 := hbig
        obtain ⟨hz1, hz2, hz3⟩ := HZ.out (getR_none6 (by rw [HGN.out]; exact HANY.out (by rw [HBG.out]; exact decide_eq_true hbig)))
        have HZ1 := Lib.hid hz1
        have HZ2 := Lib.hid hz2
        have HZ3 := Lib.hid hz3
        clear hz1 hz2 hz3 HZ
        go_wp2
        refine bodyPost_ret (v := .tuple #[.agg #[U 0#64, .slice none 0 0], .bool false]) ?_ rfl ⟨⟨none, 0, by rw [HZ1.out, HZ2.out, HZ3.out]; rfl, by rw [HZ2.out]; exact RdW.nil_⟩, HWZ.out⟩
        unfold results
        rw [show Try.f45.results = #[.cell 2 72, .tmp 3] from rfl]
        go_simp
        try rfl
      · have hbig2 : ¬ BitVec.ofInt 64 1048576 < v0 := hbig
        have hvl : v0.toNat ≤ 1048576 := by
          have h9 : ¬ (1048576#64).toNat < v0.toNat := fun h => hbig (BitVec.lt_def.2 h)
          have : (1048576#64).toNat = 1048576 := rfl
          omega
        obtain ⟨z, hz⟩ : ∃ z, v0.toInt = z := ⟨_, rfl⟩
        have HZV := Lib.hid (show (v0.toNat : Int) = z by rw [← hz, BitVec.toInt_eq_toNat_of_lt (by omega)])
        have HNB := Lib.hid (show gAny xs (k + 1) = false by rw [HNS.out, HNY.out, HBG.out, decide_eq_false hbig]; rfl)
        clear y0 y1 z0 z1 HRR r0 r1 HWZ
        go_wp2_with fail
        apply wp_region_tail 83 17 (Eqs _ :: Eqs _ :: Eqs _ :: Eqs _ :: Eqs _ :: Eqs _ :: Eqs _ :: Eqs _ :: Eqs _ :: Eqs _ :: Eqs _ :: Eqs _ :: Eqs _ :: Eqs _ :: Eqs _ :: Eqs _ :: (SliW 0 1 1 #[.int .i64 z, U v1] 70) :: []) rfl (by kernel_rfl) (by rfl) (stab_cons (stab_eq _) (stab_cons (stab_eq _) (stab_cons (stab_eq _) (stab_cons (stab_eq _) (stab_cons (stab_eq _) (stab_cons (stab_eq _) (stab_cons (stab_eq _) (stab_cons (stab_eq _) (stab_cons (stab_eq _) (stab_cons (stab_eq _) (stab_cons (stab_eq _) (stab_cons (stab_eq _) (stab_cons (stab_eq _) (stab_cons (stab_eq _) (stab_cons (stab_eq _) (stab_cons (stab_eq _) (stab_cons stab_sliW stab_nil))))))))))))))))) (by kernel_rfl) (by kernel_rfl) (by kernel_rfl) (by kernel_rfl)
        case hstep =>
          simp only [List.take_succ_cons, List.take_zero]
          refine StepsOK.cons ?_ ?_
          · -- 0: Go.Op.fieldAddr 72 (Go.Operand.tmp 4) 1
            intro a w1 hR1 hF hU hsz
            have e4 : a.eval (.tmp 4) = _ := hU 4 (by kernel_rfl)
            rw [if_pos (by rfl)]
            intro K hK
            clear hF hU hsz
            obtain ⟨q1, q2, q3⟩ := eval_rest a
            generalize hρ : a.eval = ρ
            rw [hρ] at q1 q2 q3 e4
            clear hρ
            have u1 := OpUp_value Try.prog K
            have u2 := OpUp_enter Try.prog K
            go_simp
            exact hK _ _ (Stood.refl _) rfl
          refine StepsOK.cons ?_ ?_
          · -- 1: Go.Op.load 64 (Go.Operand.tmp 55)
            intro a w1 hR1 hF hU hsz
            have e55 : a.eval (.tmp 55) = _ := hF 0 _ _ rfl rfl (by kernel_rfl)
            rw [if_pos (by rfl)]
            intro K hK
            clear hF hU hsz
            have c0_ := Lib.cell_of_heap (heap_below HQ.out (Stood.cur hR1)) 1
            obtain ⟨q1, q2, q3⟩ := eval_rest a
            generalize hρ : a.eval = ρ
            rw [hρ] at q1 q2 q3 e55
            clear hρ
            have u1 := OpUp_value Try.prog K
            have u2 := OpUp_enter Try.prog K
            go_simp
            exact hK _ _ (Stood.refl _) rfl
          refine StepsOK.cons ?_ ?_
          · -- 2: Go.Op.move (Go.Operand.tmp 0)
            intro a w1 hR1 hF hU hsz
            have e0 : a.eval (.tmp 0) = _ := hU 0 (by kernel_rfl)
            rw [if_pos (by rfl)]
            intro K hK
            clear hF hU hsz
            obtain ⟨q1, q2, q3⟩ := eval_rest a
            generalize hρ : a.eval = ρ
            rw [hρ] at q1 q2 q3 e0
            clear hρ
            have u1 := OpUp_value Try.prog K
            have u2 := OpUp_enter Try.prog K
            go_simp
            exact hK _ _ (Stood.refl _) rfl
          refine StepsOK.cons ?_ ?_
          · -- 3: Go.Op.move (Go.Operand.tmp 6)
            intro a w1 hR1 hF hU hsz
            have e6 : a.eval (.tmp 6) = _ := hU 6 (by kernel_rfl)
            rw [if_pos (by rfl)]
            intro K hK
            clear hF hU hsz
            obtain ⟨q1, q2, q3⟩ := eval_rest a
            generalize hρ : a.eval = ρ
            rw [hρ] at q1 q2 q3 e6
            clear hρ
            have u1 := OpUp_value Try.prog K
            have u2 := OpUp_enter Try.prog K
            go_simp
            exact hK _ _ (Stood.refl _) rfl
          refine StepsOK.cons ?_ ?_
          · -- 4: Go.Op.binOp Go.BinOp.mul 3 (Go.Operand.const (Go.Value.int Go.IntKind.i64 2)) (G
            intro a w1 hR1 hF hU hsz
            have e58 : a.eval (.tmp 58) = _ := hF 3 _ _ rfl rfl (by kernel_rfl)
            rw [if_pos (by rfl)]
            intro K hK
            clear hF hU hsz
            obtain ⟨q1, q2, q3⟩ := eval_rest a
            generalize hρ : a.eval = ρ
            rw [hρ] at q1 q2 q3 e58
            clear hρ
            have u1 := OpUp_value Try.prog K
            have u2 := OpUp_enter Try.prog K
            go_simp
            exact hK _ _ (Stood.refl _) rfl
          refine StepsOK.cons ?_ ?_
          · -- 5: Go.Op.binOp Go.BinOp.add 3 (Go.Operand.const (Go.Value.int Go.IntKind.i64 2)) (G
            intro a w1 hR1 hF hU hsz
            have e59 : a.eval (.tmp 59) = _ := hF 4 _ _ rfl rfl (by kernel_rfl)
            rw [if_pos (by rfl)]
            intro K hK
            clear hF hU hsz
            obtain ⟨q1, q2, q3⟩ := eval_rest a
            generalize hρ : a.eval = ρ
            rw [hρ] at q1 q2 q3 e59
            clear hρ
            have u1 := OpUp_value Try.prog K
            have u2 := OpUp_enter Try.prog K
            go_simp
            exact hK _ _ (Stood.refl _) rfl
          refine StepsOK.cons ?_ ?_
          · -- 6: Go.Op.indexAddr 28 (Go.Operand.tmp 57) (Go.Operand.tmp 60)
            intro a w1 hR1 hF hU hsz
            have e57 : a.eval (.tmp 57) = _ := hF 2 _ _ rfl rfl (by kernel_rfl)
            have e60 : a.eval (.tmp 60) = _ := hF 5 _ _ rfl rfl (by kernel_rfl)
            rw [if_pos (by rfl)]
            intro K hK
            clear hF hU hsz
            obtain ⟨q1, q2, q3⟩ := eval_rest a
            generalize hρ : a.eval = ρ
            rw [hρ] at q1 q2 q3 e57 e60
            clear hρ
            have u1 := OpUp_value Try.prog K
            have u2 := OpUp_enter Try.prog K
            go_simp
            exact hK _ _ (Stood.refl _) rfl
          refine StepsOK.cons ?_ ?_
          · -- 7: Go.Op.load 22 (Go.Operand.tmp 61)
            intro a w1 hR1 hF hU hsz
            have e61 : a.eval (.tmp 61) = _ := hF 6 _ _ rfl rfl (by kernel_rfl)
            rw [if_pos (by rfl)]
            intro K hK
            clear hF hU hsz
            have hz1 := ((Stood.cur hR1).cell (cell_lt k0)).trans k0
            obtain ⟨q1, q2, q3⟩ := eval_rest a
            generalize hρ : a.eval = ρ
            rw [hρ] at q1 q2 q3 e61
            clear hρ
            have u1 := OpUp_value Try.prog K
            have u2 := OpUp_enter Try.prog K
            go_simp
            exact hK _ _ (Stood.refl _) rfl
          refine StepsOK.cons ?_ ?_
          · -- 8: Go.Op.convert 22 3 (Go.Operand.tmp 62)
            intro a w1 hR1 hF hU hsz
            have e62 : a.eval (.tmp 62) = _ := hF 7 _ _ rfl rfl (by kernel_rfl)
            rw [if_pos (by rfl)]
            intro K hK
            clear hF hU hsz
            obtain ⟨q1, q2, q3⟩ := eval_rest a
            generalize hρ : a.eval = ρ
            rw [hρ] at q1 q2 q3 e62
            clear hρ
            have u1 := OpUp_value Try.prog K
            have u2 := OpUp_enter Try.prog K
            go_simp
            exact hK _ _ (Stood.refl _) rfl
          refine StepsOK.cons ?_ ?_
          · -- 9: Go.Op.move (Go.Operand.tmp 0)
            intro a w1 hR1 hF hU hsz
            have e0 : a.eval (.tmp 0) = _ := hU 0 (by kernel_rfl)
            rw [if_pos (by rfl)]
            intro K hK
            clear hF hU hsz
            obtain ⟨q1, q2, q3⟩ := eval_rest a
            generalize hρ : a.eval = ρ
            rw [hρ] at q1 q2 q3 e0
            clear hρ
            have u1 := OpUp_value Try.prog K
            have u2 := OpUp_enter Try.prog K
            go_simp
            exact hK _ _ (Stood.refl _) rfl
          refine StepsOK.cons ?_ ?_
          · -- 10: Go.Op.move (Go.Operand.tmp 6)
            intro a w1 hR1 hF hU hsz
            have e6 : a.eval (.tmp 6) = _ := hU 6 (by kernel_rfl)
            rw [if_pos (by rfl)]
            intro K hK
            clear hF hU hsz
            obtain ⟨q1, q2, q3⟩ := eval_rest a
            generalize hρ : a.eval = ρ
            rw [hρ] at q1 q2 q3 e6
            clear hρ
            have u1 := OpUp_value Try.prog K
            have u2 := OpUp_enter Try.prog K
            go_simp
            exact hK _ _ (Stood.refl _) rfl
          refine StepsOK.cons ?_ ?_
          · -- 11: Go.Op.binOp Go.BinOp.mul 3 (Go.Operand.const (Go.Value.int Go.IntKind.i64 2)) (G
            intro a w1 hR1 hF hU hsz
            have e65 : a.eval (.tmp 65) = _ := hF 10 _ _ rfl rfl (by kernel_rfl)
            rw [if_pos (by rfl)]
            intro K hK
            clear hF hU hsz
            obtain ⟨q1, q2, q3⟩ := eval_rest a
            generalize hρ : a.eval = ρ
            rw [hρ] at q1 q2 q3 e65
            clear hρ
            have u1 := OpUp_value Try.prog K
            have u2 := OpUp_enter Try.prog K
            go_simp
            exact hK _ _ (Stood.refl _) rfl
          refine StepsOK.cons ?_ ?_
          · -- 12: Go.Op.binOp Go.BinOp.add 3 (Go.Operand.const (Go.Value.int Go.IntKind.i64 3)) (G
            intro a w1 hR1 hF hU hsz
            have e66 : a.eval (.tmp 66) = _ := hF 11 _ _ rfl rfl (by kernel_rfl)
            rw [if_pos (by rfl)]
            intro K hK
            clear hF hU hsz
            obtain ⟨q1, q2, q3⟩ := eval_rest a
            generalize hρ : a.eval = ρ
            rw [hρ] at q1 q2 q3 e66
            clear hρ
            have u1 := OpUp_value Try.prog K
            have u2 := OpUp_enter Try.prog K
            go_simp
            exact hK _ _ (Stood.refl _) rfl
          refine StepsOK.cons ?_ ?_
          · -- 13: Go.Op.indexAddr 28 (Go.Operand.tmp 64) (Go.Operand.tmp 67)
            intro a w1 hR1 hF hU hsz
            have e64 : a.eval (.tmp 64) = _ := hF 9 _ _ rfl rfl (by kernel_rfl)
            have e67 : a.eval (.tmp 67) = _ := hF 12 _ _ rfl rfl (by kernel_rfl)
            rw [if_pos (by rfl)]
            intro K hK
            clear hF hU hsz
            obtain ⟨q1, q2, q3⟩ := eval_rest a
            generalize hρ : a.eval = ρ
            rw [hρ] at q1 q2 q3 e64 e67
            clear hρ
            have u1 := OpUp_value Try.prog K
            have u2 := OpUp_enter Try.prog K
            go_simp
            exact hK _ _ (Stood.refl _) rfl
          refine StepsOK.cons ?_ ?_
          · -- 14: Go.Op.load 22 (Go.Operand.tmp 68)
            intro a w1 hR1 hF hU hsz
            have e68 : a.eval (.tmp 68) = _ := hF 13 _ _ rfl rfl (by kernel_rfl)
            rw [if_pos (by rfl)]
            intro K hK
            clear hF hU hsz
            have hz1 := ((Stood.cur hR1).cell (cell_lt k1)).trans k1
            obtain ⟨q1, q2, q3⟩ := eval_rest a
            generalize hρ : a.eval = ρ
            rw [hρ] at q1 q2 q3 e68
            clear hρ
            have u1 := OpUp_value Try.prog K
            have u2 := OpUp_enter Try.prog K
            go_simp
            exact hK _ _ (Stood.refl _) rfl
          refine StepsOK.cons ?_ ?_
          · -- 15: Go.Op.build 70 #[(0, Go.Operand.tmp 63), (1, Go.Operand.tmp 69)]
            intro a w1 hR1 hF hU hsz
            have e63 : a.eval (.tmp 63) = _ := hF 8 _ _ rfl rfl (by kernel_rfl)
            have e69 : a.eval (.tmp 69) = _ := hF 14 _ _ rfl rfl (by kernel_rfl)
            rw [if_pos (by rfl)]
            intro K hK
            clear hF hU hsz
            obtain ⟨q1, q2, q3⟩ := eval_rest a
            generalize hρ : a.eval = ρ
            rw [hρ] at q1 q2 q3 e63 e69
            clear hρ
            have u1 := OpUp_value Try.prog K
            have u2 := OpUp_enter Try.prog K
            go_simp
            exact hK _ _ (Stood.refl _) rfl
          refine StepsOK.cons ?_ ?_
          · -- 16: Go.Op.buildSlice 64 1 #[(0, Go.Operand.tmp 70)]
            intro a w1 hR1 hF hU hsz
            have e70 : a.eval (.tmp 70) = _ := hF 15 _ _ rfl rfl (by kernel_rfl)
            rw [if_pos (by rfl)]
            intro K hK
            clear hF hU hsz
            obtain ⟨q1, q2, q3⟩ := eval_rest a
            generalize hρ : a.eval = ρ
            rw [hρ] at q1 q2 q3 e70
            clear hρ
            have u1 := OpUp_value Try.prog K
            have u2 := OpUp_enter Try.prog K
            go_simp
            exact hK _ _ ((Below.refl _ _).alloc (Nat.le_refl _) _) ⟨_, rfl, Nat.zero_le _, heap_alloc_new _ _⟩
          exact StepsOK.nil
        case hend =>
          intro vs0 w1 hR1 hH0
          obtain ⟨vs1, rfl, hH1⟩ := hH0.eq_
          obtain ⟨vs2, rfl, hH2⟩ := hH1.eq_
          obtain ⟨vs3, rfl, hH3⟩ := hH2.eq_
          obtain ⟨vs4, rfl, hH4⟩ := hH3.eq_
          obtain ⟨vs5, rfl, hH5⟩ := hH4.eq_
          obtain ⟨vs6, rfl, hH6⟩ := hH5.eq_
          obtain ⟨vs7, rfl, hH7⟩ := hH6.eq_
          obtain ⟨vs8, rfl, hH8⟩ := hH7.eq_
          obtain ⟨vs9, rfl, hH9⟩ := hH8.eq_
          obtain ⟨vs10, rfl, hH10⟩ := hH9.eq_
          obtain ⟨vs11, rfl, hH11⟩ := hH10.eq_
          obtain ⟨vs12, rfl, hH12⟩ := hH11.eq_
          obtain ⟨vs13, rfl, hH13⟩ := hH12.eq_
          obtain ⟨vs14, rfl, hH14⟩ := hH13.eq_
          obtain ⟨vs15, rfl, hH15⟩ := hH14.eq_
          obtain ⟨vs16, rfl, hH16⟩ := hH15.eq_
          obtain ⟨v16, vs17, rfl, hv16, hH17⟩ := hH16.cons
          obtain rfl := hH17.nil
          clear hH0 hH1 hH2 hH3 hH4 hH5 hH6 hH7 hH8 hH9 hH10 hH11 hH12 hH13 hH14 hH15 hH16 hH17
          simp only [List.take_succ_cons, List.take_zero, putAll, Act.put, List.setIfInBounds_toArray, List.set_cons_zero, List.set_cons_succ]
          obtain ⟨q, rfl, hq1, hq2⟩ := hv16
          have hW1 := Stood.cur hR1
          have HO1 := Lib.hid (HO.out.below hW1)
          have HB1 := Lib.hid (HB.out.trans (hW1.mono HB.out.size))
          have HQ1 := Lib.hid (heap_below HQ.out hW1)
          have HRX1 := Lib.hid (heap_below HRX.out hW1)
          have hqlt := heap_lt HQ1.out
          have hrd := RdW.of_heap hq2
          refine stop_ ?_
          refine appW 64 70 Try.underlying64 infoLw (.tmp 56) (.tmp 71) rfl rfl (w.heap.size + 2) A (gws xs k) _ d rfl HGL.out.symm HO1.out (some ⟨q, 0, none⟩) [(z, v1)] 1 1 rfl rfl hrd (by rw [HGL.out]; simp; omega) (by omega) ?_
          intro B2 us d2 w5 hus hown2 hg2 _
          have hnA : ∀ j, j < w.heap.size + 2 → ¬ some j = blk A := fun j hj e => by have := (HO1.out.lt j e.symm).1; omega
          have hQ3 : w5.heap[w.heap.size + 1]? = some _ := (hg2.block _ hqlt (hnA _ (by omega))).trans HQ1.out
          have hR3 : w5.heap[w.heap.size]? = some _ := (hg2.block _ (heap_lt HRX1.out) (hnA _ (by omega))).trans HRX1.out
          have HU := Lib.hid (show us = gws xs (k + 1) by rw [hus, HGS.out, HAT.out, HZV.out])
          have HUL := Lib.hid (show us.length = k + 1 by rw [HU.out, gws_len])
          have hb3 := HB1.out.grown hg2 (by omega) (fun j hj => by have := (HO1.out.lt j hj).1; omega)
          have hQ4 := heap_set1 1 hQ3 (.slice B2 us.length d2)
          simp only [List.setIfInBounds_toArray, List.set_cons_zero, List.set_cons_succ] at hQ4
          have HQ4 := Lib.hid hQ4
          have HR4 := Lib.hid (show (w5.setCell ⟨w.heap.size + 1, 1, none⟩ (.slice B2 us.length d2)).heap[w.heap.size]? = some _ from (Below.heap_setCell _ _ _ _ (by simp)).trans hR3)
          have HB4 := Lib.hid (hb3.setCell (p := ⟨w.heap.size + 1, 1, none⟩) (by simp only; omega) (.slice B2 us.length d2))
          have HO4 := Lib.hid ((show OwnW 70 w5 (w.heap.size + 2) B2 us d2 from hown2).kept (grownBy_setAt' w5 (w.heap.size + 1) 1 (.slice B2 us.length d2)) (by
            cases hB : blk B2 with
            | none => exact .inl rfl
            | some j => exact .inr (fun e => by cases e; have h1 := (hown2.lt _ hB).1; omega)))
          have o1 := Lib.cell_of_heap hQ3 1
          have j1 := Lib.frozen_of_heap hQ3 1
          clear hus hg2 hown2 hrd hQ3 hR3 hQ4 hb3 hq1 hq2 hR1 hqlt hW1 hnA
          unfold Stop
          go_wp2
          go_roundw
          case rel => exact ⟨k + 1, B2, d2, hlt, by go_num, HNB.out, by rw [← HUL.out]; exact HQ4.out, by rw [← HU.out]; exact HO4.out, HR4.out, HB4.out⟩
          case measure => simp [intOf]; omega
    · obtain rfl : k = N := by omega
      have c40 := Lib.cell_of_heap HQ.out 0
      have c41 := Lib.cell_of_heap HQ.out 1
      have m1 : IntKind.i64.wrap (2 * (k : Int)) = 2 * (k : Int) := IntWalk.i64_in _ (by omega)
      have m2 : IntKind.i64.wrap (3 + 2 * (k : Int)) = 3 + 2 * (k : Int) := IntWalk.i64_in _ (by omega)
      have m3 : (3 + 2 * (k : Int)).toNat = 3 + 2 * k := by omega
      have m4 : 3 + 2 * (k : Int) ≤ (c : Int) := by omega
      have m5 : (0 : Int) ≤ 3 + 2 * (k : Int) := by omega
      have KF := Lib.hid (KF.out wr (HR.out.below HB.out))
      cases hfit : sealFits (xs.take (3 + 2 * k)) with
      | false =>
        obtain ⟨hz1, hz2, hz3⟩ := HZ.out (getR_none5 (by rw [HGN.out]; exact hfit))
        have HZ1 := Lib.hid hz1
        have HZ2 := Lib.hid hz2
        have HZ3 := Lib.hid hz3
        rw [hfit] at KF
        clear hz1 hz2 hz3 HZ hfit HWZ HRR r0 r1 y0 y1 z0 z1
        go_wp2_with fail
        refine KF.out.mono ?_
        rintro e w5 ⟨rfl, hb5⟩
        have HRX := Lib.hid (heap_below HRX.out hb5)
        have HB := Lib.hid (HB.out.trans (hb5.mono HB.out.size))
        have y0 := Lib.cell_of_heap HRX.out 0
        have y1 := Lib.cell_of_heap HRX.out 1
        have z0 := Lib.frozen_of_heap HRX.out 0
        have z1 := Lib.frozen_of_heap HRX.out 1
        have HWZ := Lib.hid ((HB.out.setCell (p := ⟨w.heap.size, 0, none⟩) (Nat.le_refl _) (.int .u64 0)).setCell (p := ⟨w.heap.size, 1, none⟩) (Nat.le_refl _) (.slice none 0 0))
        have HRR := Lib.hid (res_set2 HRX.out (.int .u64 0) (.slice none 0 0))
        have r0 := Lib.cell_of_heap HRR.out 0
        have r1 := Lib.cell_of_heap HRR.out 1
        clear hb5 c40 c41
        go_wp2
        refine bodyPost_ret (v := .tuple #[.agg #[U 0#64, .slice none 0 0], .bool false]) ?_ rfl ⟨⟨none, 0, by rw [HZ1.out, HZ2.out, HZ3.out]; rfl, by rw [HZ2.out]; exact RdW.nil_⟩, HWZ.out⟩
        unfold results
        rw [show Try.f45.results = #[.cell 2 72, .tmp 3] from rfl]
        go_simp
        try rfl
      | true =>
        have HGT := Lib.hid (show gtell xs = (x0, gws xs k) ∧ (getR xs).isSome = true by
          have h9 := getR_some hl (by rw [g0]; exact h0) (by rw [g1]; exact h4) (by rw [HGN.out]; exact h6) (by rw [HGN.out]; exact hfit) (by rw [HGN.out]; exact HNY.out)
          rw [g0, HGN.out] at h9
          unfold gtell
          rw [h9]
          exact ⟨rfl, rfl⟩)
        rw [hfit] at KF
        clear hfit HWZ HRR r0 r1 y0 y1 z0 z1 c40 c41
        go_wp2_with fail
        refine KF.out.mono ?_
        rintro e w5 ⟨rfl, hb5⟩
        have HRX := Lib.hid (heap_below HRX.out hb5)
        have HQ := Lib.hid (heap_below HQ.out hb5)
        have HO := Lib.hid (HO.out.below hb5)
        have HB := Lib.hid (HB.out.trans (hb5.mono HB.out.size))
        have y0 := Lib.cell_of_heap HRX.out 0
        have y1 := Lib.cell_of_heap HRX.out 1
        have z0 := Lib.frozen_of_heap HRX.out 0
        have z1 := Lib.frozen_of_heap HRX.out 1
        have c40 := Lib.cell_of_heap HQ.out 0
        have c41 := Lib.cell_of_heap HQ.out 1
        have HWF := Lib.hid ((HB.out.setCell (p := ⟨w.heap.size, 0, none⟩) (Nat.le_refl _) (U x0)).setCell (p := ⟨w.heap.size, 1, none⟩) (Nat.le_refl _) (.slice A k d))
        have HRR := Lib.hid (res_set2 HRX.out (U x0) (.slice A k d))
        have r0 := Lib.cell_of_heap HRR.out 0
        have r1 := Lib.cell_of_heap HRR.out 1
        have HO3 := Lib.hid (show OwnW 70 ((w5.setCell ⟨w.heap.size, 0, none⟩ (U x0)).setCell ⟨w.heap.size, 1, none⟩ (.slice A k d)) (w.heap.size + 2) A (gws xs k) d from by
          have hne : blk A = none ∨ blk A ≠ some w.heap.size := by
            cases hA : blk A with
            | none => exact .inl rfl
            | some j => exact .inr (fun e => by cases e; have := (HO.out.lt _ hA).1; omega)
          exact (HO.out.kept (grownBy_setAt' _ _ 0 _) hne).kept (grownBy_setAt' _ _ 1 _) hne)
        clear hb5
        go_wp2
        refine bodyPost_ret (v := .tuple #[.agg #[U x0, .slice A k d], .bool true]) ?_ rfl ⟨⟨A, d, by rw [HGT.out.1, HGT.out.2, HGL.out], by rw [HGT.out.1]; exact OwnW.rd HO3.out⟩, HWF.out⟩
        unfold results
        rw [show Try.f45.results = #[.cell 2 72, .tmp 3] from rfl]
        go_simp
        try rfl
end Go.Proofs.Ytgkojedgamglgaa
