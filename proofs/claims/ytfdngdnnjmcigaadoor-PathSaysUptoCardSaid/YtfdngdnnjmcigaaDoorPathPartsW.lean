/- The walk of PathParts. Condition: the slice can be read. -/
import Derived.Test.YtfdngdnnjmcigaaDoorPathPlain3
import Derived.Test.YtfdngdnnjmcigaaDoorPathCleansW
import Derived.Test.YtfdngdnnjmcigaaDoorPath5
namespace Go.Proofs.YtfdngdnnjmcigaaDoor
open Go.RowKit
set_option linter.unusedVariables false
set_option linter.unusedSimpArgs false
set_option maxHeartbeats 4000000 in
set_option maxRecDepth 100000 in
theorem PathParts_walk (l : List ByteArray) (A : Option Addr) (c : Nat) (w : World) (hr : RdS w A l) (hc : l.length ≤ c) (hm : c ≤ maxLen) :
    Calls Tryd.prog 7 #[.slice A l.length c] w fun e w' => e = .returned (.bool true) ∧ Below w.heap.size w w' := by
  unfold maxLen at hm
  have KA := Lib.hid (awake16 w)
  by_cases hl : l.length < 1 ∨ 9 < l.length
  · have k1 : (l.length : Int) < 1 ∨ (9 : Int) < l.length := by omega
    rcases k1 with k1 | k1
    · go_enter Tryd.func7, Tryd.ntmps7
      go_wp2_with fail
      refine KA.out.mono ?_
      rintro e w1 ⟨rfl, hb1⟩
      go_wp2
      all_goals go_ret
      all_goals exact ⟨rfl, hb1⟩
    · have k2 : ¬ (l.length : Int) < 1 := by omega
      go_enter Tryd.func7, Tryd.ntmps7
      go_wp2_with fail
      refine KA.out.mono ?_
      rintro e w1 ⟨rfl, hb1⟩
      go_wp2
      all_goals go_ret
      all_goals exact ⟨rfl, hb1⟩
  have k1 : ¬ (l.length : Int) < 1 := by omega
  have k2 : ¬ (9 : Int) < l.length := by omega
  have k3 : (l.length : Int) ≤ 9 := by omega
  have HR := Lib.hid hr
  clear hr hl
  go_enter Tryd.func7, Tryd.ntmps7
  go_wp2_with fail
  refine KA.out.mono ?_
  rintro e w1 ⟨rfl, hb1⟩
  have HB1 := Lib.hid hb1
  have HR1 := Lib.hid (HR.out.below hb1)
  clear hb1 KA
  go_wp2
  go_loopw [3] (fun i wr => ∃ k : Nat, k ≤ l.length ∧ i = .int .i64 k ∧ Go.RowKit.Hid (∀ p ∈ l.take k, nameOk p = true) ∧ wr = w1) (fun i _ => l.length - (intOf i).toNat)
  case atStart => exact ⟨0, Nat.zero_le _, rfl, Lib.hid (by simp), rfl⟩
  case round =>
    obtain ⟨k, hk, rfl, hall, rfl⟩ := hrel
    by_cases hlt : k < l.length
    · obtain ⟨b, off, rfl, _, hcq⟩ := HR1.out.at_ hlt
      have HT := Lib.hid (show l.take (k + 1) = l.take k ++ [l[k]] from List.take_succ_eq_append_getElem hlt)
      generalize l[k] = x at *
      have e1 : IntKind.i64.wrap ((k : Int) + 1) = (k : Int) + 1 := IntWalk.i64_in _ (by omega)
      cases hN : nameOk x with
      | true =>
        have KN := Lib.hid (show ∀ W : World, Calls Tryd.prog 12 #[.string x] W fun e w' => e = .returned (.bool true) ∧ w' = W from fun W => by have h := pName_any x W; rw [hN] at h; exact h)
        have HA2 := Lib.hid (show ∀ p ∈ l.take (k + 1), nameOk p = true by
          rw [HT.out]; intro p hp
          rcases List.mem_append.1 hp with hp | hp
          · exact hall.out p hp
          · rw [List.mem_singleton.1 hp]; exact hN)
        go_wp2_with fail
        refine (KN.out _).mono ?_
        rintro e w2 ⟨rfl, hw⟩
        subst hw
        go_wp2
        go_roundw
        case rel => exact ⟨k + 1, by omega, by go_num, Lib.hid HA2.out, by first | rfl | trivial⟩
        case measure => simp [intOf]; omega
      | false =>
        have KN := Lib.hid (show ∀ W : World, Calls Tryd.prog 12 #[.string x] W fun e w' => e = .returned (.bool false) ∧ w' = W from fun W => by have h := pName_any x W; rw [hN] at h; exact h)
        go_wp2_with fail
        refine (KN.out _).mono ?_
        rintro e w2 ⟨rfl, hw⟩
        subst hw
        go_wp2
        go_ret
        exact ⟨rfl, HB1.out⟩
    · obtain rfl : k = l.length := by omega
      rw [List.take_length] at hall
      have hl0 : l ≠ [] := by intro h; rw [h] at k1; simp at k1
      obtain ⟨hE, hL, hC, hd, hsf, hjl, hnd⟩ := parts_law l hl0 (by omega) hall.out
      have KJ := Lib.hid (fun W (h : RdS W A l) => pJoin_any A l c W h (by omega) (by omega))
      have KS := Lib.hid (fun W => by have h := pSplitP_any (joinB l) W; rw [hE, hL] at h; exact h)
      have KC := Lib.hid (fun W => by have h := pClean_any (joinB l) W; rw [hC] at h; exact h)
      have hlt : l.length - 1 < l.length := by omega
      have KL := Lib.hid (fun W => pLast_yes (joinB l) l l[l.length - 1] W hE hL (List.getElem?_eq_getElem hlt) (hnd _ (List.getElem_mem hlt)) hd hsf (by rw [joinB_size]; omega))
      clear hE hL hC hd hsf hjl hnd hall
      generalize joinB l = s at *
      go_wp2_with fail
      refine (KJ.out _ HR1.out).mono ?_
      rintro e w2 ⟨rfl, hb2⟩
      have HR2 := Lib.hid (HR1.out.below hb2)
      have HB2 := Lib.hid (HB1.out.trans (hb2.mono HB1.out.size))
      clear hb2 KJ
      go_wp2_with fail
      refine (KS.out _).mono ?_
      rintro e w3 ⟨v, rfl, hown, hb3⟩
      obtain ⟨A2, c2, rfl, hrd, hnc, _⟩ := OwnS.form hown
      have HS3 := Lib.hid hrd
      have HR3 := Lib.hid (HR2.out.below hb3)
      have HB3 := Lib.hid (HB2.out.trans (hb3.mono HB2.out.size))
      clear hb3 KS hown hrd HB2
      go_wp2_with fail
      refine (KL.out _).mono ?_
      rintro e w4 ⟨A3, c3, rfl, hrd3, hb4⟩
      have HL4 := Lib.hid hrd3.init
      have HS4 := Lib.hid (HS3.out.below hb4)
      have HR4 := Lib.hid (HR3.out.below hb4)
      have HB4 := Lib.hid (HB3.out.trans (hb4.mono HB3.out.size))
      clear hb4 KL hrd3 HB3
      have hst : sameT l l = true := decide_eq_true rfl
      have KT := Lib.hid (fun W (h1 : RdS W A2 l) (h2 : RdS W A l) => by have h := pTexts_any l l A2 A c2 c W h1 h2 (by unfold maxLen; omega) (by unfold maxLen; omega); rw [hst] at h; exact h)
      have hdl : sameT l.dropLast l.dropLast = true := decide_eq_true rfl
      have KT2 := Lib.hid (fun W (h1 : RdS W A3 l.dropLast) (h2 : RdS W A l.dropLast) => by have h := pTexts_any l.dropLast l.dropLast A3 A c3 c W h1 h2 (by rw [List.length_dropLast]; unfold maxLen; omega) (by rw [List.length_dropLast]; unfold maxLen; omega); rw [hdl, List.length_dropLast] at h; exact h)
      have HLT := Lib.hid hlt
      have HCQ := Lib.hid (fun (W : World) (h : RdS W A l) => h.at_ hlt)
      have e2 : IntKind.i64.wrap ((l.length : Int) - 1) = (l.length : Int) - 1 := IntWalk.i64_in _ (by omega)
      have e3 : ((l.length : Int) - 1).toNat = l.length - 1 := by omega
      have e5 : 0 ≤ (l.length : Int) - 1 := by omega
      have e6 : l.length - 1 ≤ c := by omega
      have e7 : (l.length : Int) - 1 ≤ c := by omega
      have e8 : l.length - 1 < l.length := hlt
      clear hst hdl
      generalize l[l.length - 1] = x at *
      go_wp2_with fail
      refine (KT.out _ HS4.out HR4.out).mono ?_
      rintro e w5 ⟨rfl, hb5⟩
      have HL5 := Lib.hid (HL4.out.below hb5)
      have HR5 := Lib.hid (HR4.out.below hb5)
      have HB5 := Lib.hid (HB4.out.trans (hb5.mono HB4.out.size))
      clear hb5 KT HB4
      go_wp2_with fail
      refine (KT2.out _ HL5.out HR5.out.init).mono ?_
      rintro e w6 ⟨rfl, hb6⟩
      have HR6 := Lib.hid (HR5.out.below hb6)
      have HB6 := Lib.hid (HB5.out.trans (hb6.mono HB5.out.size))
      clear hb6 KT2 HB5
      obtain ⟨b, off, rfl, _, hcq⟩ := HCQ.out _ HR6.out
      go_wp2_with fail
      refine (KC.out _).mono ?_
      rintro e w7 ⟨rfl, hb7⟩
      have HB7 := Lib.hid (HB6.out.trans (hb7.mono HB6.out.size))
      clear hb7 KC HB6
      go_wp2
      go_ret
      exact ⟨rfl, HB7.out⟩
end Go.Proofs.YtfdngdnnjmcigaaDoor
