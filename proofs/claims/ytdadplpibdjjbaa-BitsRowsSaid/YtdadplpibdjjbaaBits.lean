/- Chapter 11: the walks of package bits: there, Has, Next, Count, Free; the reference's HasBit, Next, CountBits, FreeBits. Condition: the slice can be read. -/
import Derived.Test.YtdadplpibdjjbaaBitsPlain
import Derived.Test.YtdadplpibdjjbaaGen
namespace Go.Proofs.Ytdadplpibdjjbaa
open Go.RowKit
set_option linter.unusedVariables false
set_option linter.unusedSimpArgs false

/-- A row of bits' value. -/
def BitsV (A : Option Addr) (n c : Nat) : Value := .agg #[.slice A n c]
/-- Boxed, it reads as it did. -/
theorem bits_cell {w1 w2 : World} {v : Value} {t : TypeId} (h : Below (w1.alloc (.cells #[v] t)).heap.size (w1.alloc (.cells #[v] t)) w2) : w2.cell? ⟨w1.heap.size, 0, none⟩ = some v := by
  have hl : w1.heap.size < (w1.alloc (.cells #[v] t)).heap.size := by simp
  refine (h.cell (p := ⟨w1.heap.size, 0, none⟩) hl).trans ?_
  go_simp
theorem there_any (n c : Nat) (A : Option Addr) (i : Int) (w : World) (hn : n ≤ 1000) (hi : -9223372036854775808 ≤ i) (hi2 : i ≤ 9223372036854775807) :
    Calls Try.prog 67 #[.agg #[.slice A n c], .int .i64 i] w fun e w' => e = .returned (.bool (decide (0 ≤ i ∧ i < 64 * (n : Int)))) ∧ Below w.heap.size w w' := by
  have HW := Lib.hid ((Below.refl w.heap.size w).alloc (Nat.le_refl _) (.cells #[.slice A n c] 53))
  by_cases h : 0 ≤ i
  · have e1 : i.tdiv 64 = i / 64 := Int.tdiv_eq_ediv_of_nonneg h
    have e2 : IntKind.i64.wrap (i / 64) = i / 64 := IntWalk.i64_in _ (by omega)
    go_enter Try.func67, Try.ntmps67
    go_wp2
    go_ret
    exact ⟨ret_bool (decide_eq_decide.2 (by omega)), HW.out⟩
  · go_enter Try.func67, Try.ntmps67
    go_wp2
    go_ret
    exact ⟨ret_bool (by rw [decide_eq_false (by omega : ¬ 0 ≤ i)]; rfl), HW.out⟩
set_option maxRecDepth 100000 in
theorem Has_any (xs : List (BitVec 64)) (c : Nat) (A : Option Addr) (i : Int) (w : World) (hr : RdU w A xs) (hn : xs.length ≤ 1000) (hi : -9223372036854775808 ≤ i) (hi2 : i ≤ 9223372036854775807) :
    Calls Try.prog 42 #[.agg #[.slice A xs.length c], .int .i64 i] w fun e w' => e = .returned (.bool (hasB xs i)) ∧ Below w.heap.size w w' := by
  have HR := Lib.hid hr
  clear hr
  have HW := Lib.hid ((Below.refl w.heap.size w).alloc (Nat.le_refl _) (.cells #[.slice A xs.length c] 53))
  by_cases h : 0 ≤ i ∧ i < 64 * (xs.length : Int)
  · obtain ⟨k, rfl⟩ := Int.eq_ofNat_of_zero_le h.1
    have hk : k / 64 < xs.length := by omega
    have hd := decide_eq_true h
    have e1 : ((k : Nat) : Int).tdiv 64 = ((k / 64 : Nat) : Int) := by rw [Int.tdiv_eq_ediv_of_nonneg (by omega)]; omega
    have e2 : IntKind.i64.wrap ((k / 64 : Nat) : Int) = ((k / 64 : Nat) : Int) := IntWalk.i64_in _ (by omega)
    have e3 : ((k : Nat) : Int).tmod 64 = ((k % 64 : Nat) : Int) := by rw [Int.tmod_eq_emod_of_nonneg (by omega)]; omega
    have e4 : IntKind.i64.wrap ((k % 64 : Nat) : Int) = ((k % 64 : Nat) : Int) := IntWalk.i64_in _ (by omega)
    have e5 : 0 ≤ (k : Int) % 64 := by omega
    go_enter Try.func42, Try.ntmps42
    go_wp2_with fail
    refine (there_any _ _ _ _ _ hn hi hi2).mono ?_
    rintro e w2 ⟨rfl, hb⟩
    have hc0 := bits_cell hb
    have HW2 := Lib.hid (HW.out.trans (hb.mono HW.out.size))
    clear hb
    rw [hd]
    obtain ⟨b, off, rfl, hcell⟩ := (HR.out.below HW2.out).at_ hk
    have hk1 := hcell (k / 64) hk
    clear hcell
    have HB := Lib.hid (show (xs[k / 64] >>> (k % 64) &&& 1#64 == 1#64) = hasB xs (k : Int) by
      rw [bit_get, hasB_nat]
      unfold bitN
      rw [List.getD_eq_getElem?_getD, List.getElem?_eq_getElem hk]; rfl)
    go_wp2
    go_ret
    exact ⟨ret_bool HB.out, HW2.out⟩
  · have hd := decide_eq_false h
    have HB := Lib.hid (show false = hasB xs i by
      unfold hasB
      by_cases h0 : 0 ≤ i
      · rw [bitN_out xs _ (by omega)]; simp
      · simp [h0])
    go_enter Try.func42, Try.ntmps42
    go_wp2_with fail
    refine (there_any _ _ _ _ _ hn hi hi2).mono ?_
    rintro e w2 ⟨rfl, hb⟩
    have HW := Lib.hid (HW.out.trans (hb.mono HW.out.size))
    clear hb
    rw [hd]
    go_wp2
    go_ret
    exact ⟨ret_bool HB.out, HW.out⟩
set_option maxRecDepth 100000 in
theorem HasBit_any (xs : List (BitVec 64)) (c : Nat) (A : Option Addr) (i : Int) (w : World) (hr : RdU w A xs) (hn : xs.length ≤ 1000) (hi : -9223372036854775808 ≤ i) (hi2 : i ≤ 9223372036854775807) :
    Calls Try.prog 61 #[.slice A xs.length c, .int .i64 i] w fun e w' => e = .returned (.bool (hasB xs i)) ∧ w = w' := by
  have HR := Lib.hid hr
  clear hr
  have hl : IntKind.i64.wrap (64 * (xs.length : Int)) = 64 * (xs.length : Int) := IntWalk.i64_in _ (by omega)
  by_cases h : 0 ≤ i
  · by_cases h2 : i < 64 * (xs.length : Int)
    · obtain ⟨k, rfl⟩ := Int.eq_ofNat_of_zero_le h
      have hk : k / 64 < xs.length := by omega
      have e1 : ((k : Nat) : Int).tdiv 64 = ((k / 64 : Nat) : Int) := by rw [Int.tdiv_eq_ediv_of_nonneg (by omega)]; omega
      have e2 : IntKind.i64.wrap ((k / 64 : Nat) : Int) = ((k / 64 : Nat) : Int) := IntWalk.i64_in _ (by omega)
      have e3 : ((k : Nat) : Int).tmod 64 = ((k % 64 : Nat) : Int) := by rw [Int.tmod_eq_emod_of_nonneg (by omega)]; omega
      have e4 : IntKind.i64.wrap ((k % 64 : Nat) : Int) = ((k % 64 : Nat) : Int) := IntWalk.i64_in _ (by omega)
      have e5 : 0 ≤ (k : Int) % 64 := by omega
      have e6 : IntKind.u64.wrap ((k : Int) % 64) = (k : Int) % 64 := by
        simp [IntKind.wrap, IntKind.bits, IntKind.signed]; omega
      have HB := Lib.hid (show (xs[k / 64] >>> (k % 64) &&& 1#64 == 1#64) = hasB xs (k : Int) by
        rw [bit_get, hasB_nat]
        unfold bitN
        rw [List.getD_eq_getElem?_getD, List.getElem?_eq_getElem hk]; rfl)
      obtain ⟨b, off, rfl, hcell⟩ := HR.out.at_ hk
      have hk1 := hcell (k / 64) hk
      clear hcell
      go_enter Try.func61, Try.ntmps61
      go_wp2
      go_ret
      exact ⟨ret_bool HB.out, rfl⟩
    · have HB := Lib.hid (show false = hasB xs i by
        unfold hasB
        rw [bitN_out xs _ (by omega)]; simp)
      go_enter Try.func61, Try.ntmps61
      go_wp2
      go_ret
      exact ⟨ret_bool HB.out, rfl⟩
  · have HB := Lib.hid (show false = hasB xs i by simp [hasB, h])
    go_enter Try.func61, Try.ntmps61
    go_wp2
    go_ret
    exact ⟨ret_bool HB.out, rfl⟩
end Go.Proofs.Ytdadplpibdjjbaa
