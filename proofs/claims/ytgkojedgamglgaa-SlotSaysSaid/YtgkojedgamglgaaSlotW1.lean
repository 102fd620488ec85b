/- The walks of package slot: named, Good, Put. No condition. -/
import Derived.Test.YtgkojedgamglgaaSlotPlain
import Derived.Test.YtgkojedgamglgaaSealWalks
import Derived.Test.YtgkojedgamglgaaCtx
import Derived.BigQuiet
import Derived.Laws.Externs
namespace Go.Proofs.Ytgkojedgamglgaa
open Go.RowKit
set_option linter.unusedVariables false
set_option linter.unusedSimpArgs false
/-- A slot's value. -/
def slV (z : Int) (s : ByteArray) : Value := .agg #[.int .i64 z, .string s]
set_option maxRecDepth 100000 in
theorem sIndexByte_any (s : ByteArray) (c : Int) (w : World) :
    Calls Try.prog 125 #[.string s, .int .u8 c] w fun e w' => e = .returned (.int .i64 (Lib.indexByte s.data.toList c.toNat.toUInt8)) ∧ w = w' := by
  go_enter Try.func125, Try.ntmps125
  go_wp2
  rw [run_callFunc_extern Try.func129 (by kernel_rfl) (by kernel_rfl) (by kernel_rfl) (e := Extern.BytealgIndexByte.indexByte) (by kernel_rfl), Lib.run_indexByteString]
  simp only [Result.andThen]
  rw [Oper.upon_value]
  go_wp2
  go_ret
  exact ⟨rfl, rfl⟩
set_option maxRecDepth 100000 in
theorem sliteIndex47_any (s : ByteArray) (w : World) :
    Calls Try.prog 124 #[.string s, .string ⟨#[47]⟩] w fun e w' => e = .returned (.int .i64 (Lib.indexByte s.data.toList 47)) ∧ w = w' := by
  have KI := Lib.hid (sIndexByte_any s 47 w)
  have KI2 : Lib.indexByte s.data.toList ((47 : Int).toNat.toUInt8) = Lib.indexByte s.data.toList 47 := rfl
  rw [KI2] at KI
  by_cases he : [47] = s.toList
  · have hE := Lib.hid (show (0 : Int) = Lib.indexByte s.data.toList 47 by rw [← ByteArray.toList_eq, ← he]; rfl)
    have h1 : (([47] : List UInt8) == s.toList) = true := by rw [he]; exact beq_self_eq_true _
    clear he
    go_enter Try.func124, Try.ntmps124
    go_wp2
    go_ret
    exact ⟨congrArg (fun x => Ending.returned (Value.int .i64 x)) hE.out, rfl⟩
  have h1 : (([47] : List UInt8) == s.toList) = false := by rw [beq_eq_false_iff_ne]; exact he
  clear he
  go_enter Try.func124, Try.ntmps124
  go_wp2_with fail
  refine KI.out.mono ?_
  rintro e w' ⟨rfl, rfl⟩
  go_wp2
  go_ret
  exact ⟨rfl, rfl⟩
set_option maxRecDepth 100000 in
theorem sIndex47_any (s : ByteArray) (w : World) :
    Calls Try.prog 121 #[.string s, .string ⟨#[47]⟩] w fun e w' => e = .returned (.int .i64 (Lib.indexByte s.data.toList 47)) ∧ w = w' := by
  have KI := Lib.hid (sliteIndex47_any s w)
  go_enter Try.func121, Try.ntmps121
  go_wp2_with fail
  refine KI.out.mono ?_
  rintro e w' ⟨rfl, rfl⟩
  go_wp2
  go_ret
  exact ⟨rfl, rfl⟩
set_option maxRecDepth 100000 in
theorem sContains47_any (s : ByteArray) (w : World) :
    Calls Try.prog 113 #[.string s, .string ⟨#[47]⟩] w fun e w' => e = .returned (.bool (hasC s 47)) ∧ w = w' := by
  have KI := Lib.hid (sIndex47_any s w)
  have HR := Lib.hid (show decide (0 ≤ Lib.indexByte s.data.toList 47) = hasC s 47 from rfl)
  generalize hasC s 47 = hb at *
  generalize Lib.indexByte s.data.toList 47 = ib at *
  go_enter Try.func113, Try.ntmps113
  go_wp2_with fail
  refine KI.out.mono ?_
  rintro e w' ⟨rfl, rfl⟩
  go_wp2
  go_ret
  exact ⟨ret_bool HR.out, rfl⟩
set_option maxRecDepth 100000 in
theorem sliteIndex0_any (s : ByteArray) (w : World) :
    Calls Try.prog 124 #[.string s, .string ⟨#[0]⟩] w fun e w' => e = .returned (.int .i64 (Lib.indexByte s.data.toList 0)) ∧ w = w' := by
  have KI := Lib.hid (sIndexByte_any s 0 w)
  have KI2 : Lib.indexByte s.data.toList ((0 : Int).toNat.toUInt8) = Lib.indexByte s.data.toList 0 := rfl
  rw [KI2] at KI
  by_cases he : [0] = s.toList
  · have hE := Lib.hid (show (0 : Int) = Lib.indexByte s.data.toList 0 by rw [← ByteArray.toList_eq, ← he]; rfl)
    have h1 : (([0] : List UInt8) == s.toList) = true := by rw [he]; exact beq_self_eq_true _
    clear he
    go_enter Try.func124, Try.ntmps124
    go_wp2
    go_ret
    exact ⟨congrArg (fun x => Ending.returned (Value.int .i64 x)) hE.out, rfl⟩
  have h1 : (([0] : List UInt8) == s.toList) = false := by rw [beq_eq_false_iff_ne]; exact he
  clear he
  go_enter Try.func124, Try.ntmps124
  go_wp2_with fail
  refine KI.out.mono ?_
  rintro e w' ⟨rfl, rfl⟩
  go_wp2
  go_ret
  exact ⟨rfl, rfl⟩
set_option maxRecDepth 100000 in
theorem sIndex0_any (s : ByteArray) (w : World) :
    Calls Try.prog 121 #[.string s, .string ⟨#[0]⟩] w fun e w' => e = .returned (.int .i64 (Lib.indexByte s.data.toList 0)) ∧ w = w' := by
  have KI := Lib.hid (sliteIndex0_any s w)
  go_enter Try.func121, Try.ntmps121
  go_wp2_with fail
  refine KI.out.mono ?_
  rintro e w' ⟨rfl, rfl⟩
  go_wp2
  go_ret
  exact ⟨rfl, rfl⟩
set_option maxRecDepth 100000 in
theorem sContains0_any (s : ByteArray) (w : World) :
    Calls Try.prog 113 #[.string s, .string ⟨#[0]⟩] w fun e w' => e = .returned (.bool (hasC s 0)) ∧ w = w' := by
  have KI := Lib.hid (sIndex0_any s w)
  have HR := Lib.hid (show decide (0 ≤ Lib.indexByte s.data.toList 0) = hasC s 0 from rfl)
  generalize hasC s 0 = hb at *
  generalize Lib.indexByte s.data.toList 0 = ib at *
  go_enter Try.func113, Try.ntmps113
  go_wp2_with fail
  refine KI.out.mono ?_
  rintro e w' ⟨rfl, rfl⟩
  go_wp2
  go_ret
  exact ⟨ret_bool HR.out, rfl⟩
set_option maxRecDepth 100000 in
theorem snamed_any (s : ByteArray) (w : World) :
    Calls Try.prog 96 #[.string s] w fun e w' => e = .returned (.bool (namedB s)) ∧ w = w' := by
  have K47 := Lib.hid (fun W => sContains47_any s W)
  have K0 := Lib.hid (fun W => sContains0_any s W)
  have HN := Lib.hid (show namedB s = (decide (1 ≤ s.size) && decide (s.size ≤ 40) && !(s.toList == [46]) && !(s.toList == [46, 46]) && !hasC s 47 && !hasC s 0) from rfl)
  generalize namedB s = nb at *
  generalize hasC s 47 = b5 at *
  generalize hasC s 0 = b6 at *
  by_cases h1 : 1 ≤ s.size
  rotate_left
  · skip
    have HR := Lib.hid (show false = nb by rw [HN.out]; simp [h1])
    have q1 : ¬ 1 ≤ (s.size : Int) := by omega
    clear h1 HN
    go_enter Try.func96, Try.ntmps96
    go_wp2
    go_ret
    exact ⟨ret_bool HR.out, rfl⟩
  have q1 : 1 ≤ (s.size : Int) := by omega
  by_cases h2 : s.size ≤ 40
  rotate_left
  · skip
    have HR := Lib.hid (show false = nb by rw [HN.out]; simp [h2])
    have q2 : ¬ (s.size : Int) ≤ 40 := by omega
    clear h1 h2 HN
    go_enter Try.func96, Try.ntmps96
    go_wp2
    go_ret
    exact ⟨ret_bool HR.out, rfl⟩
  have q2 : (s.size : Int) ≤ 40 := by omega
  cases h3 : s.toList == [46] with
  | true =>
    have HR := Lib.hid (show false = nb by rw [HN.out]; simp [h3])
    clear h1 h2 HN
    go_enter Try.func96, Try.ntmps96
    go_wp2
    go_ret
    exact ⟨ret_bool HR.out, rfl⟩
  | false =>
    cases h4 : s.toList == [46, 46] with
    | true =>
      have HR := Lib.hid (show false = nb by rw [HN.out]; simp [h4])
      clear h1 h2 HN
      go_enter Try.func96, Try.ntmps96
      go_wp2
      go_ret
      exact ⟨ret_bool HR.out, rfl⟩
    | false =>
      have HN := Lib.hid (show nb = (!b5 && !b6) by rw [HN.out, decide_eq_true h1, decide_eq_true h2, h3, h4]; rfl)
      clear h1 h2
      cases b5 with
      | true =>
        have HR := Lib.hid (show false = nb by rw [HN.out]; rfl)
        go_enter Try.func96, Try.ntmps96
        go_wp2_with fail
        refine (K47.out _).mono ?_
        rintro e w' ⟨rfl, rfl⟩
        go_wp2
        go_ret
        exact ⟨ret_bool HR.out, rfl⟩
      | false =>
        have HR := Lib.hid (show (!b6) = nb by rw [HN.out]; rfl)
        go_enter Try.func96, Try.ntmps96
        go_wp2_with fail
        refine (K47.out _).mono ?_
        rintro e w' ⟨rfl, rfl⟩
        go_wp2_with fail
        refine (K0.out _).mono ?_
        rintro e w' ⟨rfl, rfl⟩
        go_wp2
        go_ret
        exact ⟨ret_bool HR.out, rfl⟩
set_option maxRecDepth 100000 in
theorem sGood_any (z : Int) (s : ByteArray) (w : World) :
    Calls Try.prog 65 #[slV z s] w fun e w' => e = .returned (.bool (goodS z s)) ∧ Below w.heap.size w w' := by
  have KN := Lib.hid (fun W => snamed_any s W)
  have HG := Lib.hid (show goodS z s = (if z = 0 then s.toList == [] else decide (1 ≤ z) && decide (z ≤ 64) && namedB s) from rfl)
  generalize goodS z s = gb at *
  generalize namedB s = nb at *
  unfold slV
  have HW := Lib.hid ((Below.refl w.heap.size w).alloc (Nat.le_refl _) (.cells #[.int .i64 z, .string s] 105))
  by_cases h0 : z = 0
  · subst h0
    have HR := Lib.hid (show s.toList.isEmpty = gb by rw [HG.out]; cases s.toList <;> rfl)
    have k0 : ((0 : Int) == 0) = true := rfl
    go_enter Try.func65, Try.ntmps65
    go_wp2
    go_ret
    exact ⟨ret_bool HR.out, HW.out⟩
  have k0 : (z == 0) = false := by rw [beq_eq_false_iff_ne]; exact h0
  have HG := Lib.hid (show gb = (decide (1 ≤ z) && decide (z ≤ 64) && nb) by rw [HG.out, if_neg h0])
  clear h0
  by_cases h1 : 1 ≤ z
  rotate_left
  · skip
    have HR := Lib.hid (show false = gb by rw [HG.out, decide_eq_false h1]; rfl)
    clear HG
    go_enter Try.func65, Try.ntmps65
    go_wp2
    go_ret
    exact ⟨ret_bool HR.out, HW.out⟩
  by_cases h2 : z ≤ 64
  rotate_left
  · skip
    have HR := Lib.hid (show false = gb by rw [HG.out, decide_eq_false h2]; simp)
    clear HG
    go_enter Try.func65, Try.ntmps65
    go_wp2
    go_ret
    exact ⟨ret_bool HR.out, HW.out⟩
  have HR := Lib.hid (show nb = gb by rw [HG.out, decide_eq_true h1, decide_eq_true h2]; rfl)
  go_enter Try.func65, Try.ntmps65
  go_wp2_with fail
  refine (KN.out _).mono ?_
  rintro e w' ⟨rfl, rfl⟩
  go_wp2
  go_ret
  exact ⟨ret_bool HR.out, HW.out⟩
theorem rep8s : (List.replicate 8 0#64 : List (BitVec 64)) = [0#64, 0#64, 0#64, 0#64, 0#64, 0#64, 0#64, 0#64] := rfl
theorem slot_set (a b : BitVec 64) (s : ByteArray) (k : Nat) (hk : k < 40) : (a :: b :: nameK s k ++ [0#64]).set (2 + k / 8) ((nameK s k).getD (k / 8) 0#64 ||| (chB s k).setWidth 64 <<< (8 * (k % 8))) = a :: b :: nameK s (k + 1) ++ [0#64] := by
  have hl := nameK_len s k
  rw [show 2 + k / 8 = k / 8 + 1 + 1 by omega]
  rw [List.cons_append, List.cons_append, List.set_cons_succ, List.set_cons_succ, List.set_append_left _ _ (by omega)]
  rfl
theorem slot_get (a b : BitVec 64) (s : ByteArray) (k : Nat) (hk : k < 40) (h : 2 + k / 8 < (a :: b :: nameK s k ++ [0#64]).length) : (a :: b :: nameK s k ++ [0#64])[2 + k / 8] = (nameK s k).getD (k / 8) 0#64 := by
  have hl := nameK_len s k
  have h1 : k / 8 < (nameK s k).length := by omega
  rw [List.getD_eq_getElem?_getD, List.getElem?_eq_getElem h1]
  simp only [show 2 + k / 8 = k / 8 + 1 + 1 by omega, List.cons_append, List.getElem_cons_succ, Option.getD_some]
  rw [List.getElem_append_left h1]
theorem chB_val (s : ByteArray) (k : Nat) (h : k < s.size) : (chB s k).setWidth 64 = BitVec.ofNat 64 s[k].toNat := by
  have e : chB s k = s[k].toBitVec := by
    unfold chB
    rw [Array.getElem?_eq_getElem (show k < s.data.size from h)]
    rfl
  rw [e]
  apply BitVec.eq_of_toNat_eq
  have := s[k].toNat_lt
  simp
set_option maxRecDepth 100000 in
set_option maxHeartbeats 8000000 in
theorem sPut_any (z : Int) (s : ByteArray) (w : World) :
    Calls Try.prog 66 #[slV z s] w fun e w' => (∃ B d, e = .returned (.slice B (slotW z s).length d) ∧ OwnU w' w.heap.size B (slotW z s) d) ∧ Below w.heap.size w w' := by
  have KF := Lib.hid (fun (W : World) => sGood_any z s W)
  cases hf : goodS z s with
  | false =>
    have HV := Lib.hid (show slotW z s = [] by unfold slotW; rw [hf]; rfl)
    rw [HV.out]
    rw [hf] at KF
    clear hf
    unfold slV at *
    have HW := Lib.hid ((Below.refl w.heap.size w).alloc (Nat.le_refl _) (.cells #[.int .i64 z, .string s] 105))
    go_enter Try.func66, Try.ntmps66
    go_wp2_with fail
    refine (KF.out _).mono ?_
    rintro e w15 ⟨rfl, hb⟩
    have HW := Lib.hid (HW.out.trans (hb.mono HW.out.size))
    clear hb
    go_wp2
    go_ret
    exact ⟨⟨none, 0, rfl, OwnU.nil_ _ _⟩, HW.out⟩
  | true =>
    have hmk := fun (W : World) => show (Instr.makeSlice 28 (.int .i64 8) (.int .i64 8)).run Try.prog W = .ok (.slice (some ⟨W.heap.size, 0, none⟩) 8 8) (W.alloc (.cells (Array.replicate 8 (U 0#64)) 22)) from make_U 8 (by omega) W
    have HNL := Lib.hid (show (slotW z s).length = 8 by rw [slotW_len, if_pos hf])
    rw [HNL.out]
    rw [hf] at KF
    by_cases ht : z = 0
    · have HV := Lib.hid (show slotW z s = List.replicate 8 0#64 by unfold slotW; rw [if_pos hf, if_pos ht])
      rw [HV.out]
      clear hf HNL
      unfold slV at *
      subst ht
      have HW := Lib.hid ((Below.refl w.heap.size w).alloc (Nat.le_refl _) (.cells #[.int .i64 0, .string s] 105))
      have HBX := Lib.hid (heap_alloc_new w (.cells #[.int .i64 0, .string s] 105))
      go_enter Try.func66, Try.ntmps66
      go_wp2_with fail
      refine (KF.out _).mono ?_
      rintro e w1 ⟨rfl, hb⟩
      have HW := Lib.hid (HW.out.trans (hb.mono HW.out.size))
      have HBX := Lib.hid (heap_below HBX.out hb)
      clear hb
      have HO := Lib.hid (OwnU.rep w1 w.heap.size 8 HW.out.size (by unfold maxLen; omega))
      have hba : Below w1.heap.size w1 (w1.alloc (.cells (Array.replicate 8 (U 0#64)) 22)) := (Below.refl _ _).alloc (Nat.le_refl _) _
      have HW := Lib.hid (HW.out.trans (hba.mono HW.out.size))
      have HBX := Lib.hid (heap_below HBX.out hba)
      clear hba
      obtain ⟨c0, c1⟩ := cells2 HBX.out
      go_wp2
      go_ret
      exact ⟨⟨_, 8, rfl, HO.out⟩, HW.out⟩
    · have HV := Lib.hid (show slotW z s = slotB z s ++ [sealOf (slotB z s)] by unfold slotW; rw [if_pos hf, if_neg ht])
      have hs40 := (good_parts hf ht).2.2
      have HK0 := Lib.hid (show (BitVec.ofInt 64 z :: BitVec.ofNat 64 s.size :: nameK s 0 ++ [0#64]) = ([0#64, 0#64, 0#64, 0#64, 0#64, 0#64, 0#64, 0#64].set 0 (BitVec.ofInt 64 z)).set 1 (BitVec.ofNat 64 s.size) from rfl)
      have HKS := Lib.hid (fun k (hk : k < 40) => slot_set (BitVec.ofInt 64 z) (BitVec.ofNat 64 s.size) s k hk)
      have HKG := Lib.hid (fun k (hk : k < 40) h => slot_get (BitVec.ofInt 64 z) (BitVec.ofNat 64 s.size) s k hk h)
      have HKL := Lib.hid (fun k => nameK_len s k)
      have HCV := Lib.hid (fun k h => chB_val s k h)
      have HKB := Lib.hid (show BitVec.ofInt 64 z :: BitVec.ofNat 64 s.size :: nameK s s.size = slotB z s from rfl)
      rw [HV.out]
      generalize nameK s = nk at *
      generalize slotB z s = nb at *
      clear hf HNL HV
      unfold slV at *
      have ht0 : (z == 0) = false := by rw [beq_eq_false_iff_ne]; exact ht
      clear ht
      have HA0 := Lib.hid ((Below.refl w.heap.size w).alloc (Nat.le_refl _) (.cells #[.int .i64 z, .string s] 105))
      have HA := Lib.hid (heap_alloc_new w (.cells #[.int .i64 z, .string s] 105))
      have hsz := heap_lt HA.out
      go_enter Try.func66, Try.ntmps66
      go_wp2_with fail
      refine (KF.out _).mono ?_
      rintro e w1 ⟨rfl, hb⟩
      have HW := Lib.hid hb
      clear hb
      generalize w.alloc (.cells #[.int .i64 z, .string s] 105) = wa at *
      have HO := Lib.hid (OwnU.rep w1 w.heap.size 8 (Nat.le_trans HA0.out.size HW.out.size) (by unfold maxLen; omega))
      rw [rep8s] at HO
      have hba : Below w1.heap.size w1 (w1.alloc (.cells (Array.replicate 8 (U 0#64)) 22)) := (Below.refl _ _).alloc (Nat.le_refl _) _
      have hws := HW.out.size
      have HW := Lib.hid (HW.out.trans (hba.mono HW.out.size))
      have HBX := Lib.hid (heap_below HA.out HW.out)
      clear hba
      have HG := Lib.hid (heap_lt (heap_alloc_new w1 (.cells (Array.replicate 8 (U 0#64)) 22)))
      obtain ⟨c0, c1⟩ := cells2 HBX.out
      have cz0 := HO.out.cellAt 0 (by simp)
      have cz1 := HO.out.cellAt 1 (by simp)
      have fz0 := HO.out.frozenAt 0
      have fz1 := HO.out.frozenAt 1
      have hmk1 := hmk w1
      clear hmk
      generalize w1.alloc (.cells (Array.replicate 8 (U 0#64)) 22) = wx at *
      generalize w1.heap.size = gg at *
      have hne1 : ¬ w.heap.size = gg := by omega
      have hne2 : ¬ gg = w.heap.size := by omega
      have HO2 := Lib.hid (((HO.out.stored 0 (BitVec.ofInt 64 z)).stored 1 (BitVec.ofNat 64 s.size)).below ((Below.refl _ _).drew))
      have HW2 := Lib.hid (((HW.out.setCell (p := ⟨gg, 0, none⟩) hws (U (BitVec.ofInt 64 z))).setCell (p := ⟨gg, 1, none⟩) hws (U (BitVec.ofNat 64 s.size))).drew)
      rw [← HK0.out] at HO2
      go_wp2
      go_region
      have HBX2 := Lib.hid (heap_below HA.out HW2.out)
      generalize ((wx.setCell ⟨gg, 0, none⟩ (U (BitVec.ofInt 64 z))).setCell ⟨gg, 1, none⟩ (U (BitVec.ofNat 64 s.size))).drew = wz at *
      clear c0 c1 cz0 cz1 fz0 fz1 HO HBX HK0 hne1 hne2 HW hmk1 HG
      obtain ⟨c0, c1⟩ := cells2 HBX2.out
      go_wp2
      clear c0 c1 HBX2
      go_loopw [27] (fun i wr => ∃ k : Nat, k ≤ s.size ∧ i = .int .i64 k ∧ OwnU wr w.heap.size (some ⟨gg, 0, none⟩) (BitVec.ofInt 64 z :: BitVec.ofNat 64 s.size :: nk k ++ [0#64]) 8 ∧ Below wa.heap.size wa wr) (fun i _ => s.size - (intOf i).toNat)
      case atStart => exact ⟨0, Nat.zero_le _, rfl, HO2.out, HW2.out⟩
      case round =>
        obtain ⟨k, hk, rfl, hown, hbw⟩ := hrel
        have HO := Lib.hid hown
        have HB := Lib.hid hbw
        clear hown hbw HO2 HW2
        have hkl := HKL.out k
        have HBX := Lib.hid (heap_below HA.out HB.out)
        obtain ⟨c0, c1⟩ := cells2 HBX.out
        by_cases hlt : k < s.size
        · have hk40 : k < 40 := by omega
          have HS := Lib.hid (HKS.out k hk40)
          have hlen : (BitVec.ofInt 64 z :: BitVec.ofNat 64 s.size :: nk k ++ [0#64]).length = 8 := by rw [List.length_append, List.length_cons, List.length_cons, hkl]; rfl
          have h28 : 2 + k / 8 < (BitVec.ofInt 64 z :: BitVec.ofNat 64 s.size :: nk k ++ [0#64]).length := by rw [hlen]; omega
          have cq := HO.out.cellAt (2 + k / 8) h28
          rw [HKG.out k hk40 h28] at cq
          have fz := HO.out.frozenAt (2 + k / 8)
          have HCV1 := Lib.hid (HCV.out k hlt)
          have hg2 := HO.out.lt gg rfl
          generalize (nk k).getD (k / 8) 0#64 = old at *
          rw [HCV1.out] at HS
          have HO1 := Lib.hid (HO.out.stored (2 + k / 8) (old ||| BitVec.ofNat 64 s[k].toNat <<< (8 * (k % 8))))
          have HB1 := Lib.hid (HB.out.setCell (p := ⟨gg, 2 + k / 8, none⟩) hws (U (old ||| BitVec.ofNat 64 s[k].toNat <<< (8 * (k % 8)))))
          rw [HS.out] at HO1
          have hne1 : ¬ w.heap.size = gg := by omega
          have hne2 : ¬ gg = w.heap.size := by omega
          generalize hsk : s[k] = sk at *
          clear HCV1
          have e1 : IntKind.i64.wrap ((k : Int) + 1) = (k : Int) + 1 := IntWalk.i64_in _ (by omega)
          have e2 : IntKind.i64.wrap (2 + (k : Int) / 8) = 2 + (k : Int) / 8 := IntWalk.i64_in _ (by omega)
          have e3 : IntKind.i64.wrap ((k : Int) / 8) = (k : Int) / 8 := IntWalk.i64_in _ (by omega)
          have e4 : (k : Int).tdiv 8 = (k : Int) / 8 := Int.tdiv_eq_ediv_of_nonneg (by omega)
          have e5 : (k : Int).tmod 8 = (k : Int) % 8 := Int.tmod_eq_emod_of_nonneg (by omega)
          have e6 : IntKind.i64.wrap ((k : Int) % 8) = (k : Int) % 8 := IntWalk.i64_in _ (by omega)
          have e7 : IntKind.i64.wrap (8 * ((k : Int) % 8)) = 8 * ((k : Int) % 8) := IntWalk.i64_in _ (by omega)
          have e8 : (2 + (k : Int) / 8).toNat = 2 + k / 8 := by omega
          have e9 : 0 ≤ 2 + (k : Int) / 8 := by omega
          have e10 : 2 + (k : Int) / 8 < 8 := by omega
          have e11 : 0 ≤ (k : Int) % 8 := by omega
          have e13 : 0 ≤ 8 * ((k : Int) % 8) := by omega
          have e12 : (8 * ((k : Int) % 8)).toNat = 8 * (k % 8) := by omega
          clear hlen h28 HS
          go_wp2
          go_region
          go_wp2
          go_roundw
          case rel => exact ⟨k + 1, by omega, by go_num, HO1.out.below ((Below.refl _ _).drew), HB1.out.drew⟩
          case measure => simp [intOf]; omega
        · obtain rfl : k = s.size := by omega
          rw [HKB.out] at HO
          have hnl : nb.length = 7 := by rw [← HKB.out, List.length_cons, List.length_cons, hkl]
          have hl8 : (nb ++ [0#64]).length = 8 := by rw [List.length_append, hnl]; rfl
          have HT := Lib.hid (show RdU wr (some ⟨gg, 0, none⟩) nb by
            have h := HO.out.rd.take 7
            rw [List.take_left' hnl] at h
            exact h)
          have KO := Lib.hid (show Calls Try.prog 74 #[.slice (some ⟨gg, 0, none⟩) 7 8] wr (fun e w' => e = .returned (U (sealOf nb)) ∧ wr = w') by
            have h := Of_any nb (some ⟨gg, 0, none⟩) 8 wr HT.out (by rw [hnl]; unfold maxLen; omega)
            rw [hnl] at h
            exact h)
          obtain ⟨cq, cz⟩ : ∃ q, wr.cell? ⟨gg, 7, none⟩ = some (U q) := ⟨_, HO.out.cellAt 7 (by rw [hl8]; omega)⟩
          have fz := HO.out.frozenAt 7
          have HO2 := Lib.hid (HO.out.stored 7 (sealOf nb))
          have HE := Lib.hid (show (nb ++ [0#64]).set 7 (sealOf nb) = nb ++ [sealOf nb] by rw [List.set_append_right _ _ (by omega), hnl]; rfl)
          rw [HE.out] at HO2
          have hg2 := HO.out.lt gg rfl
          have HB2 := Lib.hid (HA0.out.trans ((HB.out.setCell (p := ⟨gg, 7, none⟩) hws (U (sealOf nb))).mono HA0.out.size))
          clear hl8 hkl hnl
          go_wp2_with fail
          refine KO.out.mono ?_
          rintro e w5 ⟨rfl, rfl⟩
          go_wp2
          go_ret
          exact ⟨⟨_, 8, rfl, HO2.out⟩, HB2.out⟩
end Go.Proofs.Ytgkojedgamglgaa
