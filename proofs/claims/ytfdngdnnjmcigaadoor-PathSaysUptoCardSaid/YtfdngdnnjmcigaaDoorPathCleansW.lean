/- The walk of PathCleans. No condition. -/
import Derived.Test.YtfdngdnnjmcigaaDoorPathPlain2
import Derived.Test.YtfdngdnnjmcigaaDoorEngQ
namespace Go.Proofs.YtfdngdnnjmcigaaDoor
open Go.RowKit
set_option linter.unusedVariables false
set_option linter.unusedSimpArgs false
theorem awake16 (w : World) : Calls Tryd.prog 8 #[] w fun e w' => e = .returned (.bool true) ∧ Below w.heap.size w w' :=
  Eng.isTrue_ok (by kernel_rfl) (by kernel_rfl) (lf := 5000) (d := 200) (by kernel_rfl) w
theorem RdS.below2 {b0 : Nat} {w w' : World} {A : Option Addr} {l : List ByteArray} (h : RdS w A l) (hb : Below b0 w w') (h0 : w.heap.size ≤ b0) : RdS w' A l := by
  rcases h with h | ⟨b, o, rfl, hlt, hc⟩
  · exact .inl h
  · exact .inr ⟨b, o, rfl, Nat.lt_of_lt_of_le hlt hb.size, fun j x hj => (hb.cell (p := ⟨b, o + j, none⟩) (show b < b0 by omega)).trans (hc j x hj)⟩
set_option maxHeartbeats 2000000 in
set_option maxRecDepth 100000 in
theorem PathCleans_walk (s : ByteArray) (w : World) :
    Calls Tryd.prog 3 #[.string s] w fun e w' => e = .returned (.bool true) ∧ Below w.heap.size w w' := by
  have KA := Lib.hid (awake16 w)
  by_cases h9 : 399 < s.size
  · have h9' : (399 : Int) < s.size := by omega
    go_enter Tryd.func3, Tryd.ntmps3
    go_wp2_with fail
    refine KA.out.mono ?_
    rintro e w1 ⟨rfl, hb1⟩
    go_wp2
    all_goals go_ret
    all_goals exact ⟨rfl, hb1⟩
  have h9' : ¬ (399 : Int) < s.size := by omega
  have h9'' : (s.size : Int) ≤ 399 := by omega
  by_cases he : splitE s = 0
  rotate_left
  · have hno := cleans_no s he
    have KC := Lib.hid (fun W => by have h := pClean_any s W; rw [hno] at h; exact h)
    have KS := Lib.hid (fun W => pSplitP_any s W)
    have he2 : (splitE s == 0) = false := beq_eq_false_iff_ne.2 he
    clear hno
    generalize splitE s = z at *
    go_enter Tryd.func3, Tryd.ntmps3
    go_wp2_with fail
    refine KA.out.mono ?_
    rintro e w1 ⟨rfl, hb1⟩
    have HB1 := Lib.hid hb1
    clear hb1 KA
    go_wp2_with fail
    refine (KC.out _).mono ?_
    rintro e w2 ⟨rfl, hb2⟩
    have HB2 := Lib.hid (HB1.out.trans (hb2.mono HB1.out.size))
    clear hb2 KC HB1
    go_wp2_with fail
    refine (KS.out _).mono ?_
    rintro e w3 ⟨v, rfl, _, hb3⟩
    have HB3 := Lib.hid (HB2.out.trans (hb3.mono HB2.out.size))
    clear hb3 KS HB2
    go_wp2
    go_ret
    refine ⟨?_, HB3.out⟩
    simp [he]
  obtain ⟨hc0, hce, hcc, halt, hnd, hpl, hjl⟩ := cleans_law s (by omega) he
  have KC := Lib.hid (fun W => pClean_any s W)
  have KC2 := Lib.hid (fun W => by have h := pClean_any (cleanB s) W; rw [hcc] at h; exact h)
  have KS := Lib.hid (fun W => by have h := pSplitP_any (cleanB s) W; rw [hce] at h; exact h)
  have HALT := Lib.hid halt
  have HND := Lib.hid hnd
  clear he hce hcc halt hnd h9
  generalize cleanB s = cb at *
  generalize splitL cb = ps at *
  have hc0b : cb.toList.isEmpty = false := by simpa using hc0
  clear hc0
  go_enter Tryd.func3, Tryd.ntmps3
  go_wp2_with fail
  refine KA.out.mono ?_
  rintro e w1 ⟨rfl, hb1⟩
  have HB1 := Lib.hid hb1
  clear hb1 KA
  go_wp2_with fail
  refine (KC.out _).mono ?_
  rintro e w2 ⟨rfl, hb2⟩
  have HB2 := Lib.hid (HB1.out.trans (hb2.mono HB1.out.size))
  clear hb2 KC HB1
  go_wp2_with fail
  refine (KS.out _).mono ?_
  rintro e w3 ⟨v, rfl, hown, hb3⟩
  obtain ⟨A, c, rfl, hrd, hnc, _⟩ := OwnS.form hown
  have HRD := Lib.hid hrd
  have HB3 := Lib.hid (HB2.out.trans (hb3.mono HB2.out.size))
  clear hb3 KS HB2 hown hrd
  go_wp2
  go_loopw [8] (fun i wr => ∃ k : Nat, k ≤ ps.length ∧ i = .int .i64 k ∧ wr = w3) (fun i _ => ps.length - (intOf i).toNat)
  case atStart => exact ⟨0, Nat.zero_le _, rfl, rfl⟩
  case round =>
    obtain ⟨k, hk, rfl, rfl⟩ := hrel
    by_cases hlt : k < ps.length
    · obtain ⟨b, off, hA, hbl, hcs⟩ : ∃ b o, A = some ⟨b, o, none⟩ ∧ b < wr.heap.size ∧ ∀ j x, ps[j]? = some x → wr.cell? ⟨b, o + j, none⟩ = some (.string x) := by
        rcases HRD.out with h | h
        · rw [h] at hlt; simp at hlt
        · exact h
      subst hA
      obtain ⟨x, hx⟩ : ∃ x, ps[k]? = some x := ⟨ps[k], List.getElem?_eq_getElem hlt⟩
      have hcq := hcs k x hx
      obtain ⟨hx2, hx1, hx0⟩ := HND.out x (List.mem_of_getElem? hx)
      have e1 : IntKind.i64.wrap ((k : Int) + 1) = (k : Int) + 1 := IntWalk.i64_in _ (by omega)
      have hx0b : x.toList.isEmpty = false := by simpa using hx0
      have hx1b : (x.toList == [46]) = false := beq_eq_false_iff_ne.2 hx1
      have hx2b : (x.toList == [46, 46]) = false := beq_eq_false_iff_ne.2 hx2
      clear hcs hx hx0
      go_wp2
      go_roundw
      case rel => exact ⟨k + 1, by omega, by go_num, by first | rfl | trivial⟩
      case measure => simp [intOf]; omega
    · obtain rfl : k = ps.length := by omega
      rcases HALT.out with ⟨hp0, hcb⟩ | ⟨hp1, hcb⟩
      · subst hp0
        subst hcb
        go_wp2_with fail
        refine (KC2.out _).mono ?_
        rintro e w4 ⟨rfl, hb4⟩
        have HB4 := Lib.hid (HB3.out.trans (hb4.mono HB3.out.size))
        clear hb4 KC2 HB3
        go_wp2
        go_ret
        refine ⟨?_, HB4.out⟩
        first | rfl | (simp; done)
      · have hq0 : 0 < ps.length := Nat.pos_of_ne_zero (fun h => hp1 (List.eq_nil_of_length_eq_zero h))
        have e4 : ¬ (ps.length : Int) = 0 := by omega
        have KJ := Lib.hid (fun W (h : RdS W A ps) => by have h1 := pJoin_any A ps c W h (by omega) (by omega); rw [hcb] at h1; exact h1)
        clear hcb
        have hp2 : ps.isEmpty = false := by simpa using hp1
        go_wp2_with fail
        refine (KC2.out _).mono ?_
        rintro e w4 ⟨rfl, hb4⟩
        have HRD4 := Lib.hid (HRD.out.below2 hb4 (Nat.le_refl _))
        have HB4 := Lib.hid (HB3.out.trans (hb4.mono HB3.out.size))
        clear hb4 KC2 HB3
        go_wp2_with fail
        refine (KJ.out _ HRD4.out).mono ?_
        rintro e w5 ⟨rfl, hb5⟩
        have HB5 := Lib.hid (HB4.out.trans (hb5.mono HB4.out.size))
        clear hb5 KJ HB4
        go_wp2
        go_ret
        refine ⟨?_, HB5.out⟩
        first | rfl | (simp; done)
end Go.Proofs.YtfdngdnnjmcigaaDoor
