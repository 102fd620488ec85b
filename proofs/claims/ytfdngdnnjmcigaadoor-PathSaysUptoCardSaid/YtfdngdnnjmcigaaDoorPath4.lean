/- The law's own texts: whether two slices of strings are alike. Condition: both can be read. -/
import Derived.Test.YtfdngdnnjmcigaaDoorPath3
namespace Go.Proofs.YtfdngdnnjmcigaaDoor
open Go.RowKit
set_option linter.unusedVariables false
set_option linter.unusedSimpArgs false
theorem bytes_ext (x y : ByteArray) (h : x.toList = y.toList) : x = y := by
  rw [ByteArray.toList_eq, ByteArray.toList_eq] at h
  cases x; cases y
  congr 1
  exact Array.ext' h
theorem RdS.at_ {w : World} {A : Option Addr} {l : List ByteArray} (h : RdS w A l) {k : Nat} (hk : k < l.length) : ∃ b o, A = some ⟨b, o, none⟩ ∧ b < w.heap.size ∧ w.cell? ⟨b, o + k, none⟩ = some (.string l[k]) := by
  rcases h with h | ⟨b, o, rfl, hlt, hc⟩
  · rw [h] at hk; simp at hk
  · exact ⟨b, o, rfl, hlt, hc k _ (List.getElem?_eq_getElem hk)⟩
theorem take_succ_eq_s {α : Type} (xs ys : List α) (k : Nat) (h1 : k < xs.length) (h2 : k < ys.length) (h : xs.take k = ys.take k) (he : xs[k] = ys[k]) : xs.take (k + 1) = ys.take (k + 1) := by
  rw [List.take_succ_eq_append_getElem h1, List.take_succ_eq_append_getElem h2, h, he]
def sameT (l m : List ByteArray) : Bool := decide (l = m)
set_option maxHeartbeats 1000000 in
theorem pTexts_any (l m : List ByteArray) (A B : Option Addr) (c d : Nat) (w : World) (hx : RdS w A l) (hy : RdS w B m) (hn : l.length ≤ maxLen) (hn2 : m.length ≤ maxLen) :
    Calls Tryd.prog 14 #[.slice A l.length c, .slice B m.length d] w fun e w' => e = .returned (.bool (sameT l m)) ∧ Below w.heap.size w w' := by
  unfold maxLen at hn hn2
  by_cases hl : l.length = m.length
  · have HX := Lib.hid hx
    have HY := Lib.hid hy
    have HL := Lib.hid hl
    rw [← hl]
    have hnn : ((l.length : Int) != (l.length : Int)) = false := by simp
    clear hx hy hl
    go_enter Tryd.func14, Tryd.ntmps14
    go_wp2
    go_loopw [5] (fun i wr => ∃ k : Nat, k ≤ l.length ∧ i = .int .i64 k ∧ l.take k = m.take k ∧ Below w.heap.size w wr) (fun i _ => l.length - (intOf i).toNat)
    case atStart => exact ⟨0, Nat.zero_le _, rfl, rfl, Below.refl _ _⟩
    case round =>
      obtain ⟨k, hk, rfl, ht, hd⟩ := hrel
      have HT := Lib.hid ht
      have HD := Lib.hid hd
      clear ht hd
      by_cases hlt : k < l.length
      · obtain ⟨b, off, rfl, _, h1⟩ := (HX.out.below HD.out).at_ hlt
        have hlt2 : k < m.length := by rw [← HL.out]; exact hlt
        obtain ⟨b2, off2, rfl, _, h2⟩ := (HY.out.below HD.out).at_ hlt2
        go_wp2
        by_cases he : l[k].toList = m[k].toList
        · have hbe : (l[k].toList == m[k].toList) = true := by rw [he]; exact beq_self_eq_true _
          have HT2 := Lib.hid (take_succ_eq_s l m k hlt hlt2 HT.out (bytes_ext _ _ he))
          go_quiet (fail)
          go_wp2
          go_roundw
          case rel => exact ⟨k + 1, by omega, by go_num, HT2.out, below_drewN HD.out _⟩
          case measure => simp [intOf]; omega
        · have hbe : (l[k].toList == m[k].toList) = false := beq_eq_false_iff_ne.2 he
          have HF := Lib.hid (show sameT l m = false by
            unfold sameT
            rw [decide_eq_false_iff_not]; intro h; exact he (by subst h; rfl))
          go_quiet (fail)
          go_wp2
          go_ret
          exact ⟨by rw [HF.out]; rfl, below_drewN HD.out _⟩
      · have HF := Lib.hid (show sameT l m = true by
          have h := HT.out
          have hle := HL.out
          rw [List.take_of_length_le (by omega), List.take_of_length_le (by omega)] at h
          unfold sameT
          rw [h]; exact decide_eq_true rfl)
        go_wp2
        go_ret
        exact ⟨by rw [HF.out]; rfl, HD.out⟩
  · have HF := Lib.hid (show sameT l m = false by
      unfold sameT
      rw [decide_eq_false_iff_not]; intro h; exact hl (by rw [h]))
    have hnn : ((l.length : Int) == (m.length : Int)) = false := by simp; omega
    have hnn2 : ¬ (l.length : Int) = (m.length : Int) := by omega
    go_enter Tryd.func14, Tryd.ntmps14
    go_wp2
    go_ret
    exact ⟨by rw [HF.out]; rfl, Below.refl _ _⟩
end Go.Proofs.YtfdngdnnjmcigaaDoor
