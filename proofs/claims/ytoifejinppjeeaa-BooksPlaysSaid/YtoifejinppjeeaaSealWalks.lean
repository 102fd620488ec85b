/- Contracts of math/bits.RotateLeft64, seal.On, seal.Of and seal.Fits: what they return for any words. Condition: a slice that is given can be read. -/
import Derived.Test.YtoifejinppjeeaaWords
import Derived.Test.YtoifejinppjeeaaSealPlain
import Derived.Outline
import Derived.BigQuiet
namespace Go.Proofs.Ytoifejinppjeeaa
open Go.RowKit
set_option linter.unusedVariables false

theorem rot_any (v : BitVec 64) (n : Int) (w : World) :
    Calls Try.prog 131 #[U v, .int .i64 n] w fun e w' => e = .returned (U (rot v n)) ∧ w = w' := by
  go_enter Try.func131, Try.ntmps131
  go_wp2
  go_ret
  exact ⟨ret_U (rot_form v _ n rfl), rfl⟩

theorem On_any (s : BitVec 64) (xs : List (BitVec 64)) (A : Option Addr) (c : Nat) (w : World) (hr : RdU w A xs) (hn : xs.length ≤ maxLen) :
    Calls Try.prog 116 #[U s, .slice A xs.length c] w fun e w' => e = .returned (U (sealOn s xs)) ∧ w = w' := by
  unfold maxLen at hn
  have HR := Lib.hid hr
  clear hr
  go_enter Try.func116, Try.ntmps116
  go_wp2
  go_loop [0, 9] (fun t i => ∃ k : Nat, k ≤ xs.length ∧ i = .int .i64 k ∧ t = U (sealOn s (xs.take k))) (fun _ i => xs.length - (intOf i).toNat)
  case atStart => exact ⟨0, Nat.zero_le _, rfl, rfl⟩
  case round =>
    obtain ⟨k, hk, rfl, rfl⟩ := hrel
    by_cases hlt : k < xs.length
    · obtain ⟨b, off, rfl, hc⟩ := HR.out.at_ hlt
      have hk1 := hc k hlt
      clear hc
      have HS := Lib.hid (sealOn_take s xs k hlt)
      generalize sealOn s (xs.take k) = t at *
      go_wp2_with (go_at_call 131; refine (rot_any _ _ _).mono ?_; rintro e w' ⟨rfl, rfl⟩)
      go_round
      case rel => exact ⟨k + 1, by omega, by go_num, by rw [HS.out]; rfl⟩
      case measure => simp [intOf]; omega
    · go_wp2
      go_ret
      have : k = xs.length := by omega
      exact ⟨ret_U (by rw [List.take_of_length_le (by omega)]), rfl⟩

theorem Of_any (xs : List (BitVec 64)) (A : Option Addr) (c : Nat) (w : World) (hr : RdU w A xs) (hn : xs.length ≤ maxLen) :
    Calls Try.prog 107 #[.slice A xs.length c] w fun e w' => e = .returned (U (sealOf xs)) ∧ w = w' := by
  have hon := Lib.hid (On_any 0x6c696e74656c2121#64 xs A c w hr hn)
  go_enter Try.func107, Try.ntmps107
  go_wp2_with fail
  rw [U_lit 7811896474847682849 (by decide) (by decide)]
  refine hon.out.mono ?_
  rintro e w' ⟨rfl, rfl⟩
  go_wp2
  go_ret
  exact ⟨rfl, rfl⟩

/-- A slice cut behind its first k: also where the model cuts at the capacity. -/
theorem Fits_any (xs : List (BitVec 64)) (A : Option Addr) (c : Nat) (w : World) (hr : RdU w A xs) (hn : xs.length ≤ maxLen) (hc : xs.length ≤ c) :
    Calls Try.prog 108 #[.slice A xs.length c] w fun e w' => e = .returned (.bool (sealFits xs)) ∧ Drawn w w' := by
  unfold maxLen at hn
  rcases xs.eq_nil_or_concat with rfl | ⟨ys, v, rfl⟩
  · go_enter Try.func108, Try.ntmps108
    go_wp2
    go_quiet (fail)
    go_wp2
    go_ret
    exact ⟨rfl, Drawn.some_ _ _⟩
  · simp only [List.concat_eq_append, List.length_append, List.length_cons, List.length_nil, Nat.zero_add] at *
    have hk : ys.length < (ys ++ [v]).length := by simp
    obtain ⟨b, off, rfl, hcell⟩ := hr.at_ hk
    have hy : RdU w (some ⟨b, off, none⟩) ys := by simpa using hr.take ys.length
    have hcv := hcell ys.length hk
    simp only [List.getElem_concat_length] at hcv
    have hof := Lib.hid (fun m => Of_any ys (some ⟨b, off, none⟩) c (w.drewN m) (hy.drewN m) (by unfold maxLen; omega))
    have hfit := Lib.hid (show (v == sealOf ys) = sealFits (ys ++ [v]) by simp [sealFits])
    clear hcell hy hr hk
    go_enter Try.func108, Try.ntmps108
    go_wp2
    go_quiet ((go_at_call 107; exact quiet_same (hof.out _)))
    go_wp2
    go_ret
    exact ⟨ret_bool hfit.out, Drawn.some_ _ _⟩
end Go.Proofs.Ytoifejinppjeeaa
