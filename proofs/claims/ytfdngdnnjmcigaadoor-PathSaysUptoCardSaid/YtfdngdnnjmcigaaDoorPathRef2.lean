/- The reference of chapter 16: bad. -/
import Derived.Test.YtfdngdnnjmcigaaDoorPathRef1
namespace Go.Proofs.YtfdngdnnjmcigaaDoor
open Go.RowKit
set_option linter.unusedVariables false
set_option linter.unusedSimpArgs false
theorem u8_zero (y : UInt8) : (((y.toNat : Int)) == 0) = (y == 0) := by
  by_cases h : y = 0
  · subst h; rfl
  · have h2 : (y == 0) = false := by rw [beq_eq_false_iff_ne]; exact h
    rw [h2, beq_eq_false_iff_ne]
    intro e
    exact h (UInt8.toNat_inj.1 (by simpa using e))
def zeroIn (s : ByteArray) (k : Nat) : Bool := (s.data.toList.take k).any (· == 0)
def badB (s : ByteArray) : Bool := zeroIn s s.size || decide (40 < s.size)
theorem zeroIn_succ (s : ByteArray) (k : Nat) (h : k < s.size) : zeroIn s (k + 1) = (zeroIn s k || (s[k] == 0)) := by
  unfold zeroIn
  have hk : k < s.data.toList.length := h
  rw [List.take_succ_eq_append_getElem hk, List.any_append]
  simp
  rfl
theorem zeroIn_mono (s : ByteArray) (k : Nat) (hk : k ≤ s.size) (h : zeroIn s k = true) : zeroIn s s.size = true := by
  unfold zeroIn at h ⊢
  rw [List.any_eq_true] at h ⊢
  obtain ⟨x, hx, h0⟩ := h
  exact ⟨x, by rw [List.take_of_length_le (show s.data.toList.length ≤ s.size from Nat.le_refl _)]; exact List.mem_of_mem_take hx, h0⟩
set_option maxRecDepth 100000 in
theorem rBad_any (s : ByteArray) (hs : s.size ≤ maxLen) (w : World) :
    Calls Tryd.prog 26 #[.string s] w fun e w' => e = .returned (.bool (badB s)) ∧ w = w' := by
  unfold maxLen at hs
  have HN := Lib.hid (show badB s = (zeroIn s s.size || decide (40 < s.size)) from rfl)
  have HST := Lib.hid (fun k h => zeroIn_succ s k h)
  have HF := Lib.hid (fun k hk h => zeroIn_mono s k hk h)
  have H0 := Lib.hid (show zeroIn s 0 = false from rfl)
  generalize badB s = nb at *
  generalize zeroIn s = ok at *
  go_enter Tryd.func26, Tryd.ntmps26
  go_wp2
  go_loopw [3] (fun i wr => ∃ k : Nat, k ≤ s.size ∧ i = .int .i64 k ∧ Go.RowKit.Hid (ok k = false) ∧ w = wr) (fun i _ => s.size - (intOf i).toNat)
  case atStart => exact ⟨0, Nat.zero_le _, rfl, Lib.hid H0.out, rfl⟩
  case round =>
    obtain ⟨k, hk, rfl, hok, rfl⟩ := hrel
    have HOK := Lib.hid hok.out
    clear hok
    by_cases hlt : k < s.size
    · have e1 : IntKind.i64.wrap ((k : Int) + 1) = (k : Int) + 1 := IntWalk.i64_in _ (by omega)
      have HS := Lib.hid (HST.out k hlt)
      have HFK := Lib.hid (HF.out (k + 1) hlt)
      generalize hy : s[k] = y at *
      have z0 := u8_zero y
      cases h0 : y == 0 with
      | true =>
        have HR := Lib.hid (show true = nb by rw [HN.out, HFK.out (by rw [HS.out, HOK.out, h0]; rfl)]; rfl)
        rw [h0] at z0
        clear HS HN HFK HF HST h0
        go_wp2
        go_ret
        exact ⟨by rw [← HR.out]; rfl, rfl⟩
      | false =>
        have HO2 := Lib.hid (show ok (k + 1) = false by rw [HS.out, HOK.out, h0]; rfl)
        rw [h0] at z0
        clear HS HFK h0
        go_wp2
        go_roundw
        case rel => exact ⟨k + 1, by omega, by go_num, Lib.hid HO2.out, trivial⟩
        case measure => simp [intOf]; omega
    · obtain rfl : k = s.size := by omega
      have HN2 := Lib.hid (show nb = decide ((40 : Int) < s.size) by rw [HN.out, HOK.out, Bool.false_or]; exact decide_eq_decide.2 (by omega))
      clear HST HF HOK H0 HN
      go_wp2
      go_ret
      exact ⟨by rw [HN2.out]; rfl, rfl⟩
end Go.Proofs.YtfdngdnnjmcigaaDoor
