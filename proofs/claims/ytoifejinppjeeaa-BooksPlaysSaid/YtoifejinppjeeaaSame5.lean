/- The contract of a law's own 'same': whether two slices of words are alike. Condition: both can be read. -/
import Derived.Test.YtoifejinppjeeaaGen
namespace Go.Proofs.Ytoifejinppjeeaa
open Go.RowKit
set_option linter.unusedVariables false

theorem take_succ_eq5 {α : Type} (xs ys : List α) (k : Nat) (h1 : k < xs.length) (h2 : k < ys.length) (h : xs.take k = ys.take k) (he : xs[k] = ys[k]) : xs.take (k + 1) = ys.take (k + 1) := by
  rw [List.take_succ_eq_append_getElem h1, List.take_succ_eq_append_getElem h2, h, he]

theorem same5_any (xs ys : List (BitVec 64)) (A B : Option Addr) (c d : Nat) (w : World) (hx : RdU w A xs) (hy : RdU w B ys) (hn : xs.length ≤ maxLen) (hn2 : ys.length ≤ maxLen) :
    Calls Try.prog 50 #[.slice A xs.length c, .slice B ys.length d] w fun e w' => e = .returned (.bool (xs == ys)) ∧ Drawn w w' := by
  unfold maxLen at hn hn2
  by_cases hl : xs.length = ys.length
  · have HX := Lib.hid hx
    have HY := Lib.hid hy
    have HL := Lib.hid hl
    rw [← hl]
    have hnn : ((xs.length : Int) != (xs.length : Int)) = false := by simp
    clear hx hy hl
    go_enter Try.func50, Try.ntmps50
    go_wp2
    go_loopw [5] (fun i wr => ∃ k : Nat, k ≤ xs.length ∧ i = .int .i64 k ∧ xs.take k = ys.take k ∧ Drawn w wr) (fun i _ => xs.length - (intOf i).toNat)
    case atStart => exact ⟨0, Nat.zero_le _, rfl, rfl, Drawn.refl _⟩
    case round =>
      obtain ⟨k, hk, rfl, ht, hd⟩ := hrel
      have HT := Lib.hid ht
      have HD := Lib.hid hd
      clear ht hd
      by_cases hlt : k < xs.length
      · obtain ⟨b, off, rfl, hc⟩ := (HX.out.drawn HD.out).at_ hlt
        have hlt2 : k < ys.length := by rw [← HL.out]; exact hlt
        obtain ⟨b2, off2, rfl, hc2⟩ := (HY.out.drawn HD.out).at_ hlt2
        have h1 := hc k hlt
        have h2 := hc2 k hlt2
        clear hc hc2
        go_wp2
        by_cases he : xs[k] = ys[k]
        · have hbe : (xs[k] != ys[k]) = false := by simp [he]
          have HT2 := Lib.hid (take_succ_eq5 xs ys k hlt hlt2 HT.out he)
          clear he
          go_quiet (fail)
          go_wp2
          go_roundw
          case rel => exact ⟨k + 1, by omega, by go_num, HT2.out, HD.out.trans (Drawn.some_ _ _)⟩
          case measure => simp [intOf]; omega
        · have hbe : (xs[k] != ys[k]) = true := by simp [he]
          have HF := Lib.hid (show (xs == ys) = false by
            rw [beq_eq_false_iff_ne]; intro h; exact he (by subst h; rfl))
          clear he
          go_quiet (fail)
          go_wp2
          go_ret
          exact ⟨ret_bool HF.out.symm, HD.out.trans (Drawn.some_ _ _)⟩
      · have HF := Lib.hid (show (xs == ys) = true by
          have h := HT.out
          have hle := HL.out
          rw [List.take_of_length_le (by omega), List.take_of_length_le (by omega)] at h
          rw [h]; exact beq_self_eq_true _)
        go_wp2
        go_ret
        exact ⟨ret_bool HF.out.symm, HD.out⟩
  · have hne : ((xs.length : Int) != (ys.length : Int)) = true := by rw [bne_iff_ne]; omega
    have HF := Lib.hid (show (xs == ys) = false by
      rw [beq_eq_false_iff_ne]; intro h; exact hl (by rw [h]))
    clear hl hx hy
    go_enter Try.func50, Try.ntmps50
    go_wp2
    go_ret
    exact ⟨ret_bool HF.out.symm, Drawn.refl _⟩
end Go.Proofs.Ytoifejinppjeeaa
