/- Contracts of the reference's Turn, Seal, Of and Fits (lintelref1). Condition: a slice that is given can be read. -/
import Derived.Test.YtoifejinppjeeaaSealWalks
namespace Go.Proofs.Ytoifejinppjeeaa
open Go.RowKit
set_option linter.unusedVariables false

theorem refTurn_form (v : BitVec 64) (n k : Int) (h0 : 0 < k) (h1 : k < 64) (hk : n % 64 = k) :
    shlv v (BitVec.ofInt 64 k) ||| shrv v (BitVec.ofInt 64 (64 - k)) = rot v n := by
  unfold shlv shrv
  rw [rot_of_mod v n k (by omega) h1 hk, toNat_ofInt_small k (by omega) (by omega), toNat_ofInt_small (64 - k) (by omega) (by omega)]
  congr 2
  omega
theorem refTurn_any (v : BitVec 64) (n : Int) (w : World) :
    Calls Try.prog 130 #[U v, .int .i64 n] w fun e w' => e = .returned (U (rot v n)) ∧ w = w' := by
  obtain ⟨hlo, hhi, q, hq⟩ := tmod_spec n
  have HQ := Lib.hid hq
  clear hq
  go_enter Try.func130, Try.ntmps130
  go_wp2
  all_goals go_ret
  · have h1 : n.tmod 64 < 0 := by assumption
    exact ⟨ret_U (refTurn_form v n _ (by omega) (by omega) (by have := HQ.out; omega)), rfl⟩
  · have h2 : (n.tmod 64 == 0) = true := by assumption
    rw [beq_iff_eq] at h2
    exact ⟨ret_U (rot_zero v n (by have := HQ.out; omega)).symm, rfl⟩
  · have h2 : (n.tmod 64 == 0) = false := by assumption
    rw [beq_eq_false_iff_ne] at h2
    exact ⟨ret_U (refTurn_form v n _ (by omega) (by omega) (by have := HQ.out; omega)), rfl⟩

theorem refSeal_any (s : BitVec 64) (xs : List (BitVec 64)) (A : Option Addr) (c : Nat) (w : World) (hr : RdU w A xs) (hn : xs.length ≤ maxLen) :
    Calls Try.prog 114 #[U s, .slice A xs.length c] w fun e w' => e = .returned (U (sealOn s xs)) ∧ Drawn w w' := by
  unfold maxLen at hn
  have HR := Lib.hid hr
  clear hr
  go_enter Try.func114, Try.ntmps114
  go_wp2
  go_loopw [0, 5] (fun t i wr => ∃ k : Nat, k ≤ xs.length ∧ i = .int .i64 k ∧ t = U (sealOn s (xs.take k)) ∧ Drawn w wr) (fun _ i _ => xs.length - (intOf i).toNat)
  case atStart => exact ⟨0, Nat.zero_le _, rfl, rfl, Drawn.refl _⟩
  case round =>
    obtain ⟨k, hk, rfl, rfl, hw⟩ := hrel
    have HW := Lib.hid hw
    by_cases hlt : k < xs.length
    · obtain ⟨b, off, rfl, hc⟩ := (HR.out.drawn hw).at_ hlt
      clear hw
      have hk1 := hc k hlt
      clear hc
      have HS := Lib.hid (sealOn_take s xs k hlt)
      generalize sealOn s (xs.take k) = t at *
      go_wp2
      go_quiet ((go_at_call 130; exact quiet_same (refTurn_any _ _ _)))
      go_wp2
      go_roundw
      case rel => exact ⟨k + 1, by omega, by go_num, by rw [HS.out]; rfl, HW.out.trans (Drawn.some_ _ _)⟩
      case measure => simp [intOf]; omega
    · clear hw
      go_wp2
      go_ret
      exact ⟨ret_U (by rw [List.take_of_length_le (by omega)]), HW.out⟩
theorem refOf_any (xs : List (BitVec 64)) (A : Option Addr) (c : Nat) (w : World) (hr : RdU w A xs) (hn : xs.length ≤ maxLen) :
    Calls Try.prog 100 #[.slice A xs.length c] w fun e w' => e = .returned (U (sealOf xs)) ∧ Drawn w w' := by
  have hon := Lib.hid (refSeal_any 0x6c696e74656c2121#64 xs A c w hr hn)
  go_enter Try.func100, Try.ntmps100
  go_wp2_with fail
  rw [U_lit 7811896474847682849 (by decide) (by decide)]
  refine hon.out.mono ?_
  rintro e w' ⟨rfl, hw⟩
  have HW := Lib.hid hw
  clear hw
  go_wp2
  go_ret
  exact ⟨rfl, HW.out⟩

end Go.Proofs.Ytoifejinppjeeaa
