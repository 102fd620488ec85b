/- Contracts of word's has, Get and of the reference's Get; of bytes.Clone. Condition: a slice that is given can be read. -/
import Derived.Test.YtfcfegnfcgglaaaWordWalks
namespace Go.Proofs.Ytfcfegnfcgglaaa
open Go.RowKit
set_option linter.unusedVariables false

theorem has_any (n c : Nat) (A : Option Addr) (at_ : Int) (hn : n ≤ maxLen) (w : World) :
    Calls Try.prog 39 #[.slice A n c, .int .i64 at_] w fun e w' => e = .returned (.bool (hasB n at_)) ∧ w = w' := by
  unfold maxLen at hn
  by_cases h0 : at_ < 0
  · have H := Lib.hid (show hasB n at_ = false by
      unfold hasB; rw [decide_eq_false (by omega)]; rfl)
    go_enter Try.func39, Try.ntmps39
    go_wp2
    go_ret
    exact ⟨by rw [H.out]; rfl, rfl⟩
  · have H := Lib.hid (show hasB n at_ = decide (at_ < (n : Int) / 8) by
      unfold hasB; rw [decide_eq_true (by omega), Bool.true_and]; congr 1)
    go_enter Try.func39, Try.ntmps39
    go_wp2
    go_ret
    exact ⟨by rw [H.out]; rfl, rfl⟩

/-- The loop of Get, in both programs: what stands in the word before byte q is read. -/
def wq (b : List (BitVec 8)) (m : Nat) (q : Int) : BitVec 64 := wtop (fun i => b.getD (8 * m + i) 0) (7 - q).toNat
theorem wq_step (b : List (BitVec 8)) (m : Nat) (q : Int) (h0 : 0 ≤ q) (h1 : q ≤ 7) (h : (8 * (m : Int) + q).toNat < b.length) :
    wq b m (q - 1) = wq b m q <<< 8 ||| (b[(8 * (m : Int) + q).toNat]).setWidth 64 := by
  unfold wq
  have e : (7 - (q - 1)).toNat = (7 - q).toNat + 1 := by omega
  rw [e, wtop]
  have e2 : 8 * m + (7 - (7 - q).toNat) = (8 * (m : Int) + q).toNat := by omega
  rw [e2, List.getD_eq_getElem?_getD, List.getElem?_eq_getElem h]
  rfl
theorem Get_any (xs : List (BitVec 8)) (A : Option Addr) (c : Nat) (at_ : Int) (hlo : -9223372036854775808 ≤ at_) (hhi : at_ ≤ 9223372036854775807) (hn : xs.length ≤ maxLen) (w : World) (hr : RdF Y w A xs) :
    Calls Try.prog 24 #[.slice A xs.length c, .int .i64 at_] w fun e w' => e = .returned (U (getW xs at_)) ∧ w = w' := by
  have hc := has_any xs.length c A at_ hn w
  unfold maxLen at hn
  by_cases hh : hasB xs.length at_ = true
  · rw [hh] at hc
    have HC := Lib.hid hc
    obtain ⟨h0, h1⟩ := (hasB_iff _ _).1 hh
    obtain ⟨m, rfl⟩ := Int.eq_ofNat_of_zero_le h0
    have hm : 8 * m + 7 < xs.length := by omega
    have HG := Lib.hid (show getW xs (m : Int) = wq xs m (-1) by unfold getW; rw [if_pos hh]; rfl)
    obtain ⟨b, off, rfl, hcell⟩ := hr.at_ (k := 8 * m) (by omega)
    have HCELL := Lib.hid hcell
    clear hcell hr hh h1 hc
    go_enter Try.func24, Try.ntmps24
    go_wp2_with fail
    refine HC.out.mono ?_
    rintro e w' ⟨rfl, rfl⟩
    go_wp2
    go_loop [5, 6] (fun v i => ∃ q : Int, -1 ≤ q ∧ q ≤ 7 ∧ i = .int .i64 q ∧ v = U (wq xs m q)) (fun _ i => (intOf i + 1).toNat)
    case atStart => exact ⟨7, by omega, by omega, rfl, rfl⟩
    case round =>
      obtain ⟨q, hq0, hq1, rfl, rfl⟩ := hrel
      by_cases hlt : 0 ≤ q
      · have hcq := HCELL.out (8 * (m : Int) + q).toNat (by omega)
        have HS := Lib.hid (wq_step xs m q hlt hq1 (by omega))
        generalize wq xs m q = t at *
        go_wp2
        go_round
        case rel => exact ⟨q - 1, by omega, by omega, rfl, by rw [HS.out]⟩
        case measure => simp [intOf]; omega
      · have : q = -1 := by omega
        subst this
        go_wp2
        go_ret
        exact ⟨ret_U HG.out.symm, rfl⟩
  · have hh' : hasB xs.length at_ = false := by simpa using hh
    rw [hh'] at hc
    have HC := Lib.hid hc
    have HG := Lib.hid (show getW xs at_ = 0 by unfold getW; rw [if_neg hh])
    clear hc hh hh'
    go_enter Try.func24, Try.ntmps24
    go_wp2_with fail
    refine HC.out.mono ?_
    rintro e w' ⟨rfl, rfl⟩
    go_wp2
    go_ret
    exact ⟨ret_U HG.out.symm, rfl⟩
theorem refGet_any (xs : List (BitVec 8)) (A : Option Addr) (c : Nat) (at_ : Int) (hlo : -9223372036854775808 ≤ at_) (hhi : at_ ≤ 9223372036854775807) (hn : xs.length ≤ maxLen) (w : World) (hr : RdF Y w A xs) :
    Calls Try.prog 31 #[.slice A xs.length c, .int .i64 at_] w fun e w' => e = .returned (U (getW xs at_)) ∧ w = w' := by
  unfold maxLen at hn
  by_cases hh : hasB xs.length at_ = true
  · obtain ⟨h0, h1⟩ := (hasB_iff _ _).1 hh
    obtain ⟨m, rfl⟩ := Int.eq_ofNat_of_zero_le h0
    have hm : 8 * m + 7 < xs.length := by omega
    have h2 : (m : Int) < (xs.length : Int) / 8 := by omega
    have HG := Lib.hid (show getW xs (m : Int) = wq xs m (-1) by unfold getW; rw [if_pos hh]; rfl)
    obtain ⟨b, off, rfl, hcell⟩ := hr.at_ (k := 8 * m) (by omega)
    have HCELL := Lib.hid hcell
    clear hcell hr hh h1
    go_enter Try.func31, Try.ntmps31
    go_wp2
    go_loop [5, 6] (fun v i => ∃ q : Int, -1 ≤ q ∧ q ≤ 7 ∧ i = .int .i64 q ∧ v = U (wq xs m q)) (fun _ i => (intOf i + 1).toNat)
    case atStart => exact ⟨7, by omega, by omega, rfl, rfl⟩
    case round =>
      obtain ⟨q, hq0, hq1, rfl, rfl⟩ := hrel
      by_cases hlt : 0 ≤ q
      · have hcq := HCELL.out (8 * (m : Int) + q).toNat (by omega)
        have HS := Lib.hid (wq_step xs m q hlt hq1 (by omega))
        generalize wq xs m q = t at *
        go_wp2
        go_round
        case rel => exact ⟨q - 1, by omega, by omega, rfl, by rw [HS.out]⟩
        case measure => simp [intOf]; omega
      · have : q = -1 := by omega
        subst this
        go_wp2
        go_ret
        exact ⟨ret_U HG.out.symm, rfl⟩
  · have HG := Lib.hid (show getW xs at_ = 0 by unfold getW; rw [if_neg hh])
    by_cases h0 : at_ < 0
    · clear hh
      go_enter Try.func31, Try.ntmps31
      go_wp2
      go_ret
      exact ⟨ret_U HG.out.symm, rfl⟩
    · have h1 : (xs.length : Int) / 8 ≤ at_ := by
        rw [hasB_iff] at hh; omega
      clear hh
      go_enter Try.func31, Try.ntmps31
      go_wp2
      go_ret
      exact ⟨ret_U HG.out.symm, rfl⟩
end Go.Proofs.Ytfcfegnfcgglaaa
