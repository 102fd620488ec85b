/- The walks of redo.Put, redo.Size and of the statement RedoSize. Condition: the slices can be read. -/
import Derived.Test.YtoifejinppjeeaaWrites
import Derived.Test.YtoifejinppjeeaaSealWalks
import Derived.Test.YtoifejinppjeeaaEngQ
import Derived.KernelRfl
import Derived.BigQuiet
namespace Go.Proofs.Ytoifejinppjeeaa
open Go.RowKit
set_option linter.unusedVariables false
set_option linter.unusedSimpArgs false
/-- A write that may not be; the words of writes; the words of a record. -/
def badW (x : Int × BitVec 64) : Bool := decide (x.1 < 0) || decide (1048576 < x.1)
def flatW (ws : List (Int × BitVec 64)) : List (BitVec 64) := ws.flatMap fun x => [BitVec.ofInt 64 x.1, x.2]
def recL (num : BitVec 64) (ws : List (Int × BitVec 64)) : List (BitVec 64) := num :: BitVec.ofNat 64 ws.length :: flatW ws
def recW (num : BitVec 64) (ws : List (Int × BitVec 64)) : List (BitVec 64) := if num = 0#64 ∨ ws.any badW = true then [] else recL num ws ++ [sealOf (recL num ws)]
theorem flatW_len : ∀ ws : List (Int × BitVec 64), (flatW ws).length = 2 * ws.length
  | [] => rfl
  | x :: ws => by
    have h := flatW_len ws
    unfold flatW at *
    rw [List.flatMap_cons, List.length_append, h, List.length_cons]
    simp only [List.length_cons, List.length_nil]
    omega
theorem flatW_take (ws : List (Int × BitVec 64)) (k : Nat) (h : k < ws.length) : flatW (ws.take (k + 1)) = flatW (ws.take k) ++ [BitVec.ofInt 64 ws[k].1, ws[k].2] := by
  unfold flatW
  rw [List.take_succ_eq_append_getElem h, List.flatMap_append]
  rfl
theorem any_take_bad (ws : List (Int × BitVec 64)) (k : Nat) (h : k < ws.length) : (ws.take (k + 1)).any badW = ((ws.take k).any badW || badW ws[k]) := by
  rw [List.take_succ_eq_append_getElem h, List.any_append]
  simp
theorem putBad_any (z : Int) (v : BitVec 64) (w : World) :
    Calls Try.prog 105 #[.agg #[.int .i64 z, U v]] w fun e w' => e = .returned (.bool (badW (z, v))) ∧ Below w.heap.size w w' := by
  have HW := Lib.hid ((Below.refl w.heap.size w).alloc (Nat.le_refl _) (.cells #[.int .i64 z, U v] 88))
  by_cases h : z < 0
  · have hb := Lib.hid (show badW (z, v) = true by unfold badW; rw [decide_eq_true h]; rfl)
    go_enter Try.func105, Try.ntmps105
    go_wp2
    go_ret
    exact ⟨ret_bool hb.out.symm, HW.out⟩
  · have hb := Lib.hid (show badW (z, v) = decide (1048576 < z) by unfold badW; rw [decide_eq_false h]; rfl)
    go_enter Try.func105, Try.ntmps105
    go_wp2
    go_ret
    exact ⟨ret_bool hb.out.symm, HW.out⟩
/-- Some number that is not below nought if there is one, else -1. -/
theorem indexBad_any (ws : List (Int × BitVec 64)) (L : Option Addr) (lc : Nat) (w : World) (hl : RdW w L ws) (hn : ws.length ≤ 1000) :
    Calls Try.prog 115 #[.slice L ws.length lc, .func (.func 105) #[] #[]] w fun e w' => (∃ r : Int, e = .returned (.int .i64 r) ∧ decide (0 ≤ r) = ws.any badW) ∧ Below w.heap.size w w' := by
  have HL := Lib.hid hl
  clear hl
  go_enter Try.func115, Try.ntmps115
  go_wp2
  go_loopw [8] (fun i wr => ∃ k : Nat, k ≤ ws.length ∧ i = .int .i64 k ∧ Go.RowKit.Hid ((ws.take k).any badW = false) ∧ Below w.heap.size w wr) (fun i _ => ws.length - (intOf i).toNat)
  case atStart => exact ⟨0, Nat.zero_le _, rfl, Lib.hid rfl, Below.refl _ _⟩
  case round =>
    obtain ⟨k, hk, rfl, hno, hbw⟩ := hrel
    have HNO := Lib.hid hno.out
    have HB := Lib.hid hbw
    clear hno hbw
    by_cases hlt : k < ws.length
    · have e1 : IntKind.i64.wrap ((k : Int) + 1) = (k : Int) + 1 := IntWalk.i64_in _ (by omega)
      obtain ⟨lb, lo, rfl, hlc⟩ := (HL.out.below HB.out).at_ hlt
      obtain ⟨hk1, hk2⟩ := hlc k hlt
      have HT := Lib.hid (any_take_bad ws k hlt)
      have HANY := Lib.hid (fun (h : badW ws[k] = true) => List.any_eq_true.2 ⟨ws[k], List.getElem_mem hlt, h⟩)
      clear hlc
      generalize ws[k] = zv at *
      obtain ⟨z, v⟩ := zv
      simp only at hk1 hk2
      have KP := Lib.hid (putBad_any z v wr)
      go_wp2_with fail
      refine (KP.out).mono ?_
      rintro e w2 ⟨rfl, hb⟩
      have HB := Lib.hid (HB.out.trans (hb.mono HB.out.size))
      clear hb KP
      cases hbd : badW (z, v) with
      | true =>
        have HA := Lib.hid (HANY.out hbd)
        clear hbd
        go_wp2
        go_ret
        exact ⟨⟨k, rfl, by rw [HA.out]; simp⟩, HB.out⟩
      | false =>
        have HNO2 := Lib.hid (show (ws.take (k + 1)).any badW = false by rw [HT.out, HNO.out, hbd]; rfl)
        clear hbd
        go_wp2
        go_roundw
        case rel => exact ⟨k + 1, by omega, by go_num, Lib.hid HNO2.out, HB.out⟩
        case measure => simp [intOf]; omega
    · obtain rfl : k = ws.length := by omega
      rw [List.take_length] at HNO
      go_wp2
      go_ret
      exact ⟨⟨-1, rfl, by rw [HNO.out]; rfl⟩, HB.out⟩
theorem hasBad_any (ws : List (Int × BitVec 64)) (L : Option Addr) (lc : Nat) (w : World) (hl : RdW w L ws) (hn : ws.length ≤ 1000) :
    Calls Try.prog 106 #[.slice L ws.length lc, .func (.func 105) #[] #[]] w fun e w' => e = .returned (.bool (ws.any badW)) ∧ Below w.heap.size w w' := by
  have HL := Lib.hid hl
  clear hl
  go_enter Try.func106, Try.ntmps106
  go_wp2_with fail
  refine (indexBad_any ws L lc _ HL.out hn).mono ?_
  rintro e w2 ⟨⟨r, rfl, hr⟩, hb⟩
  have HR := Lib.hid hr
  clear hr
  go_wp2
  go_ret
  exact ⟨ret_bool HR.out, hb⟩
theorem two_cells {w1 w2 : World} {T : TypeId} {a b : Value} (h : Below (w1.alloc (.cells #[a, b] T)).heap.size (w1.alloc (.cells #[a, b] T)) w2) :
    w2.cell? ⟨w1.heap.size, 0, none⟩ = some a ∧ w2.cell? ⟨w1.heap.size, 1, none⟩ = some b := by
  have hl : w1.heap.size < (w1.alloc (.cells #[a, b] T)).heap.size := by simp
  refine ⟨(h.cell (p := ⟨w1.heap.size, 0, none⟩) hl).trans ?_, (h.cell (p := ⟨w1.heap.size, 1, none⟩) hl).trans ?_⟩ <;> go_simp
theorem recL_take (num lw : BitVec 64) (ws : List (Int × BitVec 64)) (k : Nat) (hk : k ≤ ws.length) : (num :: lw :: flatW (ws.take k)).length = 2 + 2 * k := by
  simp only [List.length_cons, flatW_len, List.length_take]
  omega
set_option maxRecDepth 100000 in
set_option maxHeartbeats 4000000 in
theorem rPut_any (num : BitVec 64) (ws : List (Int × BitVec 64)) (L : Option Addr) (lc : Nat) (w : World) (hl : RdW w L ws) (hn : ws.length ≤ 400) :
    Calls Try.prog 94 #[.agg #[U num, .slice L ws.length lc]] w fun e w' => (∃ B d, e = .returned (.slice B (recW num ws).length d) ∧ OwnU w' w.heap.size B (recW num ws) d) ∧ Below w.heap.size w w' := by
  have HL := Lib.hid hl
  clear hl
  have HW := Lib.hid ((Below.refl w.heap.size w).alloc (Nat.le_refl _) (.cells #[U num, .slice L ws.length lc] 77))
  have h4 : ¬ 400 < (ws.length : Int) := by omega
  by_cases h0 : num = 0#64
  · subst h0
    have HR := Lib.hid (show recW 0#64 ws = [] by unfold recW; rw [if_pos (.inl rfl)])
    have hv0 : (0#64 == BitVec.ofInt 64 0) = true := by decide
    go_enter Try.func94, Try.ntmps94
    go_wp2
    go_ret
    exact ⟨⟨none, 0, by rw [HR.out]; rfl, by rw [HR.out]; exact OwnU.nil_ _ _⟩, HW.out⟩
  have hv1 : (num == 0#64) = false := by rw [beq_eq_false_iff_ne]; exact h0
  have hv2 : (num == BitVec.ofInt 64 0) = false := by rw [beq_eq_false_iff_ne]; exact h0
  cases hbad : ws.any badW with
  | true =>
    have HR := Lib.hid (show recW num ws = [] by unfold recW; rw [if_pos (.inr hbad)])
    have KB := Lib.hid (fun (W : World) h => hbad ▸ hasBad_any ws L lc W h (by omega))
    clear hbad h0
    go_enter Try.func94, Try.ntmps94
    go_wp2_with fail
    refine (KB.out _ (HL.out.below HW.out)).mono ?_
    rintro e w2 ⟨rfl, hb⟩
    have HW := Lib.hid (HW.out.trans (hb.mono HW.out.size))
    clear hb
    go_wp2
    go_ret
    exact ⟨⟨none, 0, by rw [HR.out]; rfl, by rw [HR.out]; exact OwnU.nil_ _ _⟩, HW.out⟩
  | false =>
    have HR := Lib.hid (show recW num ws = recL num ws ++ [sealOf (recL num ws)] by
      unfold recW
      rw [if_neg (by rintro (h | h); exact h0 h; rw [hbad] at h; cases h)])
    have KB := Lib.hid (fun (W : World) h => hbad ▸ hasBad_any ws L lc W h (by omega))
    clear hbad h0
    have HLEN := Lib.hid (fun k hk => recL_take num (BitVec.ofNat 64 ws.length) ws k hk)
    have HFT := Lib.hid (fun k h => flatW_take ws k h)
    have HRL := Lib.hid (show num :: BitVec.ofNat 64 ws.length :: flatW (ws.take ws.length) = recL num ws by rw [List.take_length]; rfl)
    go_enter Try.func94, Try.ntmps94
    go_wp2_with fail
    refine (KB.out _ (HL.out.below HW.out)).mono ?_
    rintro e w2 ⟨rfl, hb⟩
    obtain ⟨c0, c1⟩ := two_cells hb
    have hsz2 : w.heap.size < w2.heap.size := by have := hb.size; simp at this; omega
    have HW := Lib.hid (HW.out.trans (hb.mono HW.out.size))
    clear hb
    have HO1 := Lib.hid (show OwnU (w2.alloc (.cells #[U num, U (BitVec.ofNat 64 ws.length)] 22)) w.heap.size (some ⟨w2.heap.size, 0, none⟩) [num, BitVec.ofNat 64 ws.length] 2 from OwnU.lit w2 w.heap.size [num, BitVec.ofNat 64 ws.length] HW.out.size (by unfold maxLen; simp))
    have HX := Lib.hid (HW.out.alloc HW.out.size (.cells #[U num, U (BitVec.ofNat 64 ws.length)] 22))
    have c0' := (((Below.refl w2.heap.size w2).alloc (Nat.le_refl _) (.cells #[U num, U (BitVec.ofNat 64 ws.length)] 22)).cell (p := ⟨w.heap.size, 0, none⟩) hsz2).trans c0
    have c1' := (((Below.refl w2.heap.size w2).alloc (Nat.le_refl _) (.cells #[U num, U (BitVec.ofNat 64 ws.length)] 22)).cell (p := ⟨w.heap.size, 1, none⟩) hsz2).trans c1
    go_wp2
    generalize w2.alloc (.cells #[U num, U (BitVec.ofNat 64 ws.length)] 22) = wx at *
    generalize BitVec.ofNat 64 ws.length = lw at *
    clear c0 c1 hsz2
    go_loopw [4, 32] (fun s i wr => ∃ (k : Nat) (B : Option Addr) (d : Nat), k ≤ ws.length ∧ i = .int .i64 k ∧ s = .slice B (2 + 2 * k) d ∧ OwnU wr w.heap.size B (num :: lw :: flatW (ws.take k)) d ∧ Below w.heap.size w wr) (fun _ i _ => ws.length - (intOf i).toNat)
    case atStart => exact ⟨0, _, _, Nat.zero_le _, rfl, rfl, HO1.out, HX.out⟩
    case round =>
      clear HO1 HX c0' c1'
      obtain ⟨k, B, d, hk, rfl, rfl, hown, hbw⟩ := hrel
      have HO := Lib.hid hown
      have HB := Lib.hid hbw
      have hz := hbw.size
      clear hown hbw
      by_cases hlt : k < ws.length
      · obtain ⟨lb, lo, rfl, hlc⟩ := (HL.out.below HB.out).at_ hlt
        obtain ⟨hk1, hk2⟩ := hlc k hlt
        have HFK := Lib.hid (HFT.out k hlt)
        clear hlc
        generalize ws[k] = zv at *
        obtain ⟨z, v⟩ := zv
        simp only at hk1 hk2 HFK
        have hcl := HLEN.out k hk
        have e0 : IntKind.i64.wrap ((k : Int) + 1) = (k : Int) + 1 := IntWalk.i64_in _ (by omega)
        go_wp2_with (first | go_skip | (at_builtin; refine stop_ ?_))
        have hbx : Below wr.heap.size wr ((wr.alloc (.cells #[.int .i64 z, U v] 88)).alloc (.cells #[U (BitVec.ofInt 64 z), U v] 22)) := ((Below.refl _ _).alloc (Nat.le_refl _) _).alloc (by simp) _
        have hby := HB.out.trans (hbx.mono hz)
        have hox := HO.out.below hbx
        have hrd : RdU ((wr.alloc (.cells #[.int .i64 z, U v] 88)).alloc (.cells #[U (BitVec.ofInt 64 z), U v] 22)) (some ⟨wr.heap.size + 1, 0, none⟩) [BitVec.ofInt 64 z, v] := by
          have h := RdU.new2 (wr.alloc (.cells #[.int .i64 z, U v] 88)) (BitVec.ofInt 64 z) v 22
          simpa using h
        refine appU (.tmp 36) (.tmp 42) rfl rfl w.heap.size B (num :: lw :: flatW (ws.take k)) _ d rfl hcl.symm hox (some ⟨wr.heap.size + 1, 0, none⟩) [BitVec.ofInt 64 z, v] 2 2 rfl rfl hrd (by rw [hcl]; simp; omega) (by have := hbx.size; omega) ?_
        intro B2 us d2 w3 hus hown2 hg2 _
        have HB3 := Lib.hid (below_app hby hox hg2 (by have := hbx.size; omega) (Nat.le_refl _))
        have HU := Lib.hid (show us = num :: lw :: flatW (ws.take (k + 1)) by rw [hus, HFK.out]; rfl)
        have HUL := Lib.hid (show us.length = 2 + 2 * (k + 1) by rw [HU.out]; exact HLEN.out (k + 1) hlt)
        have HO3 := Lib.hid hown2
        clear hus hg2 hown2 hbx hby hox hrd
        unfold Stop
        go_wp2
        go_roundw
        case rel => exact ⟨k + 1, B2, d2, hlt, by go_num, by rw [HUL.out], by rw [← HU.out]; exact HO3.out, HB3.out⟩
        case measure => simp [intOf]; omega
      · obtain rfl : k = ws.length := by omega
        have hcl := HLEN.out ws.length (Nat.le_refl _)
        rw [HRL.out] at HO hcl
        have KO := Lib.hid (show Calls Try.prog 107 #[.slice B (2 + 2 * ws.length) d] wr (fun e w' => e = .returned (U (sealOf (recL num ws))) ∧ wr = w') by
          have h := Of_any (recL num ws) B d wr HO.out.rd (by rw [hcl]; unfold maxLen; omega)
          rw [hcl] at h
          exact h)
        go_wp2_with fail
        refine KO.out.mono ?_
        rintro e w5 ⟨rfl, rfl⟩
        go_wp2_with (first | go_skip | (at_builtin; refine stop_ ?_))
        have hbx : Below wr.heap.size wr (wr.alloc (.cells #[U (sealOf (recL num ws))] 22)) := (Below.refl _ _).alloc (Nat.le_refl _) _
        have hby := HB.out.trans (hbx.mono hz)
        have hox := HO.out.below hbx
        refine appU (.tmp 45) (.tmp 48) rfl rfl w.heap.size B (recL num ws) _ d rfl hcl.symm hox (some ⟨wr.heap.size, 0, none⟩) [sealOf (recL num ws)] 1 1 rfl rfl (RdU.new1 _ _ _) (by rw [hcl]; simp; omega) (by have := hbx.size; omega) ?_
        intro B2 us d2 w3 hus hown2 hg2 _
        have HB3 := Lib.hid (below_app hby hox hg2 (by have := hbx.size; omega) (Nat.le_refl _))
        have HU := Lib.hid (show us = recW num ws by rw [hus, HR.out])
        have HO3 := Lib.hid hown2
        clear hus hg2 hown2 hbx hby hox
        unfold Stop
        go_wp2
        go_ret
        exact ⟨⟨B2, d2, by rw [← HU.out]; rfl, by rw [← HU.out]; exact HO3.out⟩, HB3.out⟩
theorem rSize_any (num : BitVec 64) (ws : List (Int × BitVec 64)) (L : Option Addr) (lc : Nat) (w : World) (hl : RdW w L ws) (hn : ws.length ≤ 400) :
    Calls Try.prog 53 #[.agg #[U num, .slice L ws.length lc]] w fun e w' => e = .returned (.int .i64 (recW num ws).length) ∧ Below w.heap.size w w' := by
  have HL := Lib.hid hl
  clear hl
  have HW := Lib.hid ((Below.refl w.heap.size w).alloc (Nat.le_refl _) (.cells #[U num, .slice L ws.length lc] 77))
  have KP := Lib.hid (fun (W : World) h => rPut_any num ws L lc W h hn)
  generalize (recW num ws).length = m at *
  go_enter Try.func53, Try.ntmps53
  go_wp2_with fail
  refine (KP.out _ (HL.out.below HW.out)).mono ?_
  rintro e w2 ⟨⟨B, d, rfl, _⟩, hb⟩
  have HW := Lib.hid (HW.out.trans (hb.mono HW.out.size))
  clear hb
  go_wp2
  go_ret
  exact ⟨rfl, HW.out⟩
end Go.Proofs.Ytoifejinppjeeaa
