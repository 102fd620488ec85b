/- Contracts of word.Put and of the reference's Put. Condition: a slice that is given can be read, and is not longer than 8000 bytes. -/
import Derived.Test.YtfcfegnfcgglaaaWordWalks4
import Derived.Deep.RegionHeld3
namespace Go.Proofs.Ytfcfegnfcgglaaa
open Go.RowKit
set_option linter.unusedVariables false

def putW (b : List (BitVec 8)) (at_ : Int) (v : BitVec 64) : List (BitVec 8) := if hasB b.length at_ = true then laid b (8 * at_.toNat) (bytes8 v) else b
theorem length_putW (b : List (BitVec 8)) (at_ : Int) (v : BitVec 64) : (putW b at_ v).length = b.length := by
  unfold putW
  split
  · rename_i h
    have := (hasB_iff _ _).1 h
    rw [length_laid _ _ _ (by rw [length_bytes8]; omega)]
  · rfl
theorem laid_step (xs : List (BitVec 8)) (k : Nat) (v : BitVec 64) (q : Nat) (hq : q < 8) (hk : k + 8 ≤ xs.length) :
    (laid xs k ((bytes8 v).take q)).set (k + q) (byteAt v q) = laid xs k ((bytes8 v).take (q + 1)) := by
  have h1 : ((bytes8 v).take q).length = q := by rw [List.length_take, length_bytes8]; omega
  have h2 : ((bytes8 v).take (q + 1)).length = q + 1 := by rw [List.length_take, length_bytes8]; omega
  apply List.ext_getElem?
  intro j
  by_cases hj : j < xs.length
  · rw [List.getElem?_set, laid_get _ _ _ (by omega) j hj, laid_get _ _ _ (by omega) j hj, h1, h2]
    by_cases e : k + q = j
    · rw [if_pos e, if_pos (by rw [length_laid _ _ _ (by omega)]; omega), if_pos (by omega), List.getElem?_take_of_lt (by omega), List.getElem?_eq_getElem (by rw [length_bytes8]; omega), bytes8_get]
      congr 2; omega
    · rw [if_neg e]
      by_cases h : k ≤ j ∧ j < k + q
      · rw [if_pos h, if_pos (by omega), List.getElem?_take_of_lt (by omega), List.getElem?_take_of_lt (by omega)]
      · rw [if_neg h, if_neg (by omega)]
  · rw [List.getElem?_eq_none (by rw [List.length_set, length_laid _ _ _ (by omega)]; omega), List.getElem?_eq_none (by rw [length_laid _ _ _ (by omega)]; omega)]
theorem infoY1 : (Try.prog.info? 5).map (·.size) = some 1 := by kernel_rfl

theorem Put_no (xs : List (BitVec 8)) (A : Option Addr) (c : Nat) (at_ : Int) (v : BitVec 64) (w : World) (hr : RdF Y w A xs) (hn : xs.length ≤ 8000) (hh : hasB xs.length at_ = false) :
    Calls Try.prog 29 #[.slice A xs.length c, .int .i64 at_, U v] w fun e w' => (∃ B d, e = .returned (.tuple #[.slice B xs.length d, .bool false]) ∧ OwnF Y 5 w' w.heap.size B xs d) ∧ Below w.heap.size w w' := by
  have HR := Lib.hid hr
  have HH := Lib.hid hh
  clear hr hh
  go_enter Try.func29, Try.ntmps29
  go_wp2_with fail
  refine (Clone_any xs A c _ HR.out hn).mono ?_
  rintro e w1 ⟨⟨B, d, rfl, hown⟩, hb⟩
  have HO := Lib.hid hown
  have HB := Lib.hid hb
  clear hown hb
  go_wp2_with fail
  have hc := has_any xs.length c A at_ (by unfold maxLen; omega) w1
  rw [HH.out] at hc
  refine hc.mono ?_
  rintro e w2 ⟨rfl, rfl⟩
  clear hc
  go_wp2
  go_ret2
  exact ⟨⟨B, d, rfl, HO.out⟩, HB.out⟩
theorem Put_yes (xs : List (BitVec 8)) (A : Option Addr) (c : Nat) (m : Nat) (v : BitVec 64) (w : World) (hr : RdF Y w A xs) (hn : xs.length ≤ 8000) (hh : hasB xs.length (m : Int) = true) :
    Calls Try.prog 29 #[.slice A xs.length c, .int .i64 (m : Int), U v] w fun e w' => (∃ B d, e = .returned (.tuple #[.slice B xs.length d, .bool true]) ∧ OwnF Y 5 w' w.heap.size B (laid xs (8 * m) (bytes8 v)) d) ∧ Below w.heap.size w w' := by
  have hm := (hasB_iff _ _).1 hh
  have hm8 : 8 * m + 8 ≤ xs.length := by omega
  have HR := Lib.hid hr
  have HH := Lib.hid hh
  clear hr hh hm
  go_enter Try.func29, Try.ntmps29
  go_wp2_with fail
  refine (Clone_any xs A c _ HR.out hn).mono ?_
  rintro e w1 ⟨⟨B, d, rfl, hown⟩, hb⟩
  obtain ⟨g, rfl, hgb, hgl⟩ := hown.form (by omega)
  have hcap := hown.cap
  have HO := Lib.hid hown
  have HB := Lib.hid hb
  have hz := hb.size
  clear hown hb
  go_wp2_with fail
  have hc := has_any xs.length c A (m : Int) (by unfold maxLen; omega) w1
  rw [HH.out] at hc
  refine hc.mono ?_
  rintro e w2 ⟨rfl, rfl⟩
  clear hc
  obtain ⟨i0, hi, _, hi1, _⟩ := info_parts infoY
  have hcA : cutA (some ⟨g, 0, none⟩) d (8 * m) = some ⟨g, 8 * m, none⟩ := by
    unfold cutA; rw [if_neg (by omega)]; simp [Addr.add_lit]
  have hsl : ∀ W, (Instr.slice 37 (.slice (some ⟨g, 0, none⟩) xs.length d) (some (.int .i64 (8 * (m : Int)))) none none).run Try.prog W = .ok (.slice (some ⟨g, 8 * m, none⟩) (xs.length - 8 * m) (d - 8 * m)) W := by
    intro W
    have h := run_cut_l (P := Try.prog) 37 5 i0 Try.underlying37 hi hi1 (some ⟨g, 0, none⟩) xs.length d (8 * m) .i64 (by omega) W
    rw [hcA] at h
    rw [show (8 * (m : Int)) = ((8 * m : Nat) : Int) by omega]
    exact h
  clear hcA hi hi1
  have hwr : IntKind.i64.wrap (8 * (m : Int)) = 8 * (m : Int) := IntWalk.i64_in _ (by omega)
  go_wp2
  have hx1 := (Below.refl w1.heap.size w1).alloc (Nat.le_refl _) (.cells #[U v] 23)
  go_region_held3 (fun _ => True) (trivial) (first
    | (go_at_call 23; refine (Bytes_any [v] (some ⟨w1.heap.size, 0, none⟩) 1 _ (RdU.drew (RdU.new1 w1 v _)) (by simp)).mono ?_; rintro e w3 ⟨⟨B3, d3, rfl, hown3⟩, hb3⟩)
    | (refine step_copyF (fun _ => rfl) _ _ _ _ rfl rfl 5 Try.underlying37 infoY1 w.heap.size g d xs (HO.out.below (hx1.drew.trans (hb3.mono hx1.size))) (8 * m) (xs.length - 8 * m) (d - 8 * m) rfl B3 (bytesOf [v]) _ d3 rfl rfl hown3.rd (by omega) ?_; intro w4 hown4 hg4) | fail)
  have hl3 : (bytesOf [v]).length = 8 := by rw [length_bytesOf]; rfl
  have hlaid : laid xs (8 * m) ((bytesOf [v]).take (xs.length - 8 * m)) = laid xs (8 * m) (bytes8 v) := by
    rw [List.take_of_length_le (by omega)]; simp [bytesOf]
  rw [hlaid] at hown4
  have HO4 := Lib.hid hown4
  have HB4 := Lib.hid (HB.out.trans (((hx1.drew.trans (hb3.mono hx1.size)).mono hz).grown hg4 (by have := hx1.size; have := hb3.size; simp at *; omega) (fun k hk => by cases hk; exact hgb)))
  have hll := length_laid xs (8 * m) (bytes8 v) (by rw [length_bytes8]; omega)
  clear hown4 hg4 hb3 hown3 hlaid hl3 hx1 hsl hwr
  go_wp2
  go_ret2
  exact ⟨⟨_, d, rfl, HO4.out⟩, HB4.out⟩

theorem Put_any (xs : List (BitVec 8)) (A : Option Addr) (c : Nat) (at_ : Int) (v : BitVec 64) (w : World) (hr : RdF Y w A xs) (hn : xs.length ≤ 8000) :
    Calls Try.prog 29 #[.slice A xs.length c, .int .i64 at_, U v] w fun e w' => (∃ B d, e = .returned (.tuple #[.slice B (putW xs at_ v).length d, .bool (hasB xs.length at_)]) ∧ OwnF Y 5 w' w.heap.size B (putW xs at_ v) d) ∧ Below w.heap.size w w' := by
  rw [length_putW]
  by_cases hh : hasB xs.length at_ = true
  · obtain ⟨m, rfl⟩ := Int.eq_ofNat_of_zero_le ((hasB_iff _ _).1 hh).1
    have h := Put_yes xs A c m v w hr hn hh
    have e : putW xs (m : Int) v = laid xs (8 * m) (bytes8 v) := by unfold putW; rw [if_pos hh]; rfl
    rw [hh, e]
    exact h
  · have hh' : hasB xs.length at_ = false := by simpa using hh
    have h := Put_no xs A c at_ v w hr hn hh'
    have e : putW xs at_ v = xs := by unfold putW; rw [if_neg hh]
    rw [hh', e]
    exact h

theorem refPut_any (xs : List (BitVec 8)) (A : Option Addr) (c : Nat) (at_ : Int) (v : BitVec 64) (w : World) (hr : RdF Y w A xs) (hn : xs.length ≤ 8000) :
    Calls Try.prog 30 #[.slice A xs.length c, .int .i64 at_, U v] w fun e w' => (∃ B d, e = .returned (.tuple #[.slice B (putW xs at_ v).length d, .bool (hasB xs.length at_)]) ∧ OwnF Y 5 w' w.heap.size B (putW xs at_ v) d) ∧ Below w.heap.size w w' := by
  have HR := Lib.hid hr
  clear hr
  go_enter Try.func30, Try.ntmps30
  go_wp2_with (first | go_skip | (at_builtin; refine stop_ ?_))
  have ho1 := OwnF.lit (f := Y) (e := 5) w w.heap.size [] (Nat.le_refl _) (by decide)
  have hb1 : Below w.heap.size w (w.alloc (.cells #[] 5)) := (Below.refl _ _).alloc (Nat.le_refl _) _
  refine appY (.tmp 10) (.tmp 11) rfl rfl w.heap.size (some ⟨w.heap.size, 0, none⟩) [] 0 0 rfl rfl ho1 A xs _ c rfl rfl (HR.out.below hb1) (by simp; omega) (by simp) ?_
  intro B ys d w2 hys hown hg _
  obtain rfl : xs = ys := by simpa using hys.symm
  have HB := Lib.hid (below_appF hb1 ho1 hg (by simp) (Nat.le_refl _))
  have HO := Lib.hid hown
  clear hys hg hown hb1 ho1
  unfold Stop
  by_cases hh : hasB xs.length at_ = true
  · have hm := (hasB_iff _ _).1 hh
    obtain ⟨m, rfl⟩ := Int.eq_ofNat_of_zero_le hm.1
    have hm8 : 8 * m + 8 ≤ xs.length := by omega
    have h1 : (m : Int) < (xs.length : Int) / 8 := by omega
    have HE := Lib.hid (show putW xs (m : Int) v = laid xs (8 * m) (bytes8 v) by unfold putW; rw [if_pos hh]; rfl)
    have HH := Lib.hid hh
    obtain ⟨g, rfl, hgb, _⟩ := HO.out.form (by omega)
    have HL := Lib.hid (show laid xs (8 * m) ((bytes8 v).take 0) = xs by simp [laid])
    clear hh hm
    go_wp2
    go_loopw [9] (fun i wr => ∃ q : Nat, q ≤ 8 ∧ i = .int .i64 q ∧ OwnF Y 5 wr w.heap.size (some ⟨g, 0, none⟩) (laid xs (8 * m) ((bytes8 v).take q)) d ∧ Below w.heap.size w wr) (fun i _ => 8 - (intOf i).toNat)
    case atStart => exact ⟨0, by omega, rfl, by rw [HL.out]; exact HO.out, HB.out⟩
    case round =>
      obtain ⟨q, hq, rfl, hown, hb⟩ := hrel
      have HO2 := Lib.hid hown
      have HB2 := Lib.hid hb
      clear hown hb
      by_cases hq8 : q < 8
      · have hll : (laid xs (8 * m) ((bytes8 v).take q)).length = xs.length := length_laid _ _ _ (by rw [List.length_take, length_bytes8]; omega)
        have hcell := HO2.out.cellAt (8 * m + q) (by rw [hll]; omega)
        have hfz := HO2.out.frozenAt (8 * m + q)
        have hst := Lib.hid (show OwnF Y 5 (wr.setCell ⟨g, 8 * m + q, none⟩ (Y (byteAt v q))) w.heap.size (some ⟨g, 0, none⟩) (laid xs (8 * m) ((bytes8 v).take (q + 1))) d by
          rw [← laid_step xs (8 * m) v q hq8 hm8]; exact HO2.out.stored (8 * m + q) (byteAt v q))
        have hb3 := Lib.hid (HB2.out.setCell (p := ⟨g, 8 * m + q, none⟩) hgb (Y (byteAt v q)))
        generalize (laid xs (8 * m) ((bytes8 v).take q))[8 * m + q] = y at *
        clear hll
        have hsv : (shrv v (BitVec.ofInt 64 (8 * (q : Int)))).setWidth 8 = byteAt v q := by
          unfold shrv byteAt; rw [toNat_ofInt_small _ (by omega) (by omega)]; congr 2
        have he : (8 * (m : Int) + (q : Int)).toNat = 8 * m + q := by omega
        go_wp2
        clear hsv he hcell hfz
        go_roundw
        case rel => exact ⟨q + 1, by omega, by go_num, hst.out, hb3.out⟩
        case measure => simp [intOf]; omega
      · have hq' : q = 8 := by omega
        have HF := Lib.hid (show laid xs (8 * m) ((bytes8 v).take q) = putW xs (m : Int) v by
          rw [HE.out, List.take_of_length_le (by rw [length_bytes8]; omega)])
        have HLN := Lib.hid (length_putW xs (m : Int) v)
        go_wp2
        go_ret2
        refine ⟨⟨some ⟨g, 0, none⟩, d, by rw [HLN.out, HH.out]; rfl, by rw [← HF.out]; exact HO2.out⟩, HB2.out⟩
  · have hh' : hasB xs.length at_ = false := by simpa using hh
    have HE := Lib.hid (show putW xs at_ v = xs by unfold putW; rw [if_neg hh])
    have HH := Lib.hid hh'
    have HN := Lib.hid (fun h => hh ((hasB_iff xs.length at_).2 h))
    clear hh hh'
    by_cases h0 : at_ < 0
    · go_wp2
      go_ret2
      exact ⟨⟨B, d, by rw [HH.out, HE.out]; rfl, by rw [HE.out]; exact HO.out⟩, HB.out⟩
    · have h1 : (xs.length : Int) / 8 ≤ at_ := by
        rcases Int.lt_or_le at_ ((xs.length : Int) / 8) with h | h
        · exact absurd ⟨by omega, by omega⟩ HN.out
        · exact h
      go_wp2
      go_ret2
      exact ⟨⟨B, d, by rw [HH.out, HE.out]; rfl, by rw [HE.out]; exact HO.out⟩, HB.out⟩
end Go.Proofs.Ytfcfegnfcgglaaa
