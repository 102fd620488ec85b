/- Chapter 11: the walks of Next and of the reference's. Condition: the slice can be read. -/
import Derived.Test.YtdadplpibdjjbaaBits
namespace Go.Proofs.Ytdadplpibdjjbaa
open Go.RowKit
set_option linter.unusedVariables false
set_option linter.unusedSimpArgs false
/-- From where, how many are looked through. -/
def fromB (i : Int) : Nat := (max i 0).toNat
def manyB (n : Nat) (from_ end_ : Int) : Nat := (min end_ (64 * (n : Int)) - max from_ 0).toNat
def nextB (xs : List (BitVec 64)) (yes : Bool) (from_ end_ : Int) : Option Nat := nextN xs yes (fromB from_) (manyB xs.length from_ end_)
/-- A place, or none: what is handed back. -/
def optV (o : Option Nat) : Value := match o with
  | some i => .tuple #[.int .i64 (i : Int), .bool true]
  | none => .tuple #[.int .i64 0, .bool false]
theorem nextN_step {xs : List (BitVec 64)} {yes : Bool} {k d : Nat} (hd : 0 < d) : nextN xs yes k d = if bitN xs k = yes then some k else nextN xs yes (k + 1) (d - 1) := by
  cases d with
  | zero => omega
  | succ d => rfl
set_option maxRecDepth 100000 in
theorem Next_any (xs : List (BitVec 64)) (c : Nat) (A : Option Addr) (yes : Bool) (i e : Int) (w : World) (hr : RdU w A xs) (hn : xs.length ≤ 1000) (hi : -9223372036854775808 ≤ i) (hi2 : i ≤ 9223372036854775807) (he : -9223372036854775808 ≤ e) (he2 : e ≤ 9223372036854775807) :
    Calls Try.prog 40 #[.agg #[.slice A xs.length c], .bool yes, .int .i64 i, .int .i64 e] w fun r w' => r = .returned (optV (nextB xs yes i e)) ∧ Below w.heap.size w w' := by
  have HR := Lib.hid hr
  clear hr
  have HW := Lib.hid ((Below.refl w.heap.size w).alloc (Nat.le_refl _) (.cells #[.slice A xs.length c] 53))
  generalize hR : nextB xs yes i e = R
  have HN := Lib.hid (show optV R = optV R from rfl)
  have HS0 := Lib.hid (Below.refl (w.alloc (.cells #[.slice A xs.length c] 53)).heap.size (w.alloc (.cells #[.slice A xs.length c] 53)))
  by_cases h0 : i < 0
  · have HST := Lib.hid (show nextN xs yes 0 (manyB xs.length i e) = R ∧ ((manyB xs.length i e : Nat) : Int) = max (min e (64 * (xs.length : Int)) - ((0 : Nat) : Int)) 0 from ⟨by rw [← hR]; unfold nextB fromB; rw [show (max i 0).toNat = 0 by omega], by unfold manyB; omega⟩)
    clear hR
    go_enter Try.func40, Try.ntmps40
    go_wp2
    go_loopw [10] (fun i wr => ∃ k d : Nat, i = .int .i64 k ∧ nextN xs yes k d = R ∧ (d : Int) = max (min e (64 * (xs.length : Int)) - (k : Int)) 0 ∧ Below (w.alloc (.cells #[.slice A xs.length c] 53)).heap.size (w.alloc (.cells #[.slice A xs.length c] 53)) wr) (fun i _ => 64 * xs.length - (intOf i).toNat)
    case atStart => exact ⟨0, manyB xs.length i e, by first | rfl | go_num, HST.out.1, HST.out.2, HS0.out⟩
    case round =>
      obtain ⟨k, d, rfl, hN, hd, hb1⟩ := hrel
      have HB1 := Lib.hid hb1
      clear hb1
      have hc0 := bits_cell HB1.out
      by_cases hke : (k : Int) < e
      · go_wp2_with fail
        refine (there_any _ _ _ _ _ hn (by omega) (by omega)).mono ?_
        rintro r w2 ⟨rfl, hb⟩
        have HB2 := Lib.hid (HB1.out.trans (hb.mono HB1.out.size))
        have hc0 := bits_cell HB2.out
        clear hb
        by_cases hkn : (k : Int) < 64 * (xs.length : Int)
        · rw [decide_eq_true (show 0 ≤ (k : Int) ∧ (k : Int) < 64 * (xs.length : Int) from ⟨by omega, hkn⟩)]
          have HS := Lib.hid (nextN_step (xs := xs) (yes := yes) (k := k) (d := d) (by omega))
          have e1 : IntKind.i64.wrap ((k : Int) + 1) = (k : Int) + 1 := IntWalk.i64_in _ (by omega)
          go_wp2_with fail
          refine (Has_any xs c A k _ (HR.out.below (HW.out.trans (HB2.out.mono HW.out.size))) hn (by omega) (by omega)).mono ?_
          rintro r w3 ⟨rfl, hb⟩
          have HB3 := Lib.hid (HB2.out.trans (hb.mono HB2.out.size))
          clear hb
          rw [hasB_nat]
          have HK := Lib.hid hN
          clear hN
          cases yes <;> cases hbit : bitN xs k <;> rw [hbit] at HS
          all_goals first
            | (go_wp2
               go_ret2
               exact ⟨by rw [← HK.out, HS.out]; rfl, HW.out.trans (HB3.out.mono HW.out.size)⟩)
            | (go_wp2
               go_roundw
               case rel => exact ⟨k + 1, d - 1, by go_num, by rw [← HK.out, HS.out]; rfl, by omega, HB3.out⟩
               case measure => simp [intOf]; omega)
        · rw [decide_eq_false (show ¬ (0 ≤ (k : Int) ∧ (k : Int) < 64 * (xs.length : Int)) from fun h => hkn h.2)]
          have h0 : d = 0 := by omega
          subst h0
          go_wp2
          go_ret2
          exact ⟨by rw [← hN]; rfl, HW.out.trans (HB2.out.mono HW.out.size)⟩
      · have h0 : d = 0 := by omega
        subst h0
        go_wp2
        go_ret2
        exact ⟨by rw [← hN]; rfl, HW.out.trans (HB1.out.mono HW.out.size)⟩
  · obtain ⟨m, rfl⟩ := Int.eq_ofNat_of_zero_le (show 0 ≤ i by omega)
    have HST := Lib.hid (show nextN xs yes m (manyB xs.length (m : Int) e) = R ∧ ((manyB xs.length (m : Int) e : Nat) : Int) = max (min e (64 * (xs.length : Int)) - (m : Int)) 0 from ⟨by rw [← hR]; unfold nextB fromB; rw [show (max (m : Int) 0).toNat = m by omega], by unfold manyB; omega⟩)
    clear hR
    go_enter Try.func40, Try.ntmps40
    go_wp2
    go_loopw [10] (fun i wr => ∃ k d : Nat, i = .int .i64 k ∧ nextN xs yes k d = R ∧ (d : Int) = max (min e (64 * (xs.length : Int)) - (k : Int)) 0 ∧ Below (w.alloc (.cells #[.slice A xs.length c] 53)).heap.size (w.alloc (.cells #[.slice A xs.length c] 53)) wr) (fun i _ => 64 * xs.length - (intOf i).toNat)
    case atStart => exact ⟨m, manyB xs.length (m : Int) e, by first | rfl | go_num, HST.out.1, HST.out.2, HS0.out⟩
    case round =>
      obtain ⟨k, d, rfl, hN, hd, hb1⟩ := hrel
      have HB1 := Lib.hid hb1
      clear hb1
      have hc0 := bits_cell HB1.out
      by_cases hke : (k : Int) < e
      · go_wp2_with fail
        refine (there_any _ _ _ _ _ hn (by omega) (by omega)).mono ?_
        rintro r w2 ⟨rfl, hb⟩
        have HB2 := Lib.hid (HB1.out.trans (hb.mono HB1.out.size))
        have hc0 := bits_cell HB2.out
        clear hb
        by_cases hkn : (k : Int) < 64 * (xs.length : Int)
        · rw [decide_eq_true (show 0 ≤ (k : Int) ∧ (k : Int) < 64 * (xs.length : Int) from ⟨by omega, hkn⟩)]
          have HS := Lib.hid (nextN_step (xs := xs) (yes := yes) (k := k) (d := d) (by omega))
          have e1 : IntKind.i64.wrap ((k : Int) + 1) = (k : Int) + 1 := IntWalk.i64_in _ (by omega)
          go_wp2_with fail
          refine (Has_any xs c A k _ (HR.out.below (HW.out.trans (HB2.out.mono HW.out.size))) hn (by omega) (by omega)).mono ?_
          rintro r w3 ⟨rfl, hb⟩
          have HB3 := Lib.hid (HB2.out.trans (hb.mono HB2.out.size))
          clear hb
          rw [hasB_nat]
          have HK := Lib.hid hN
          clear hN
          cases yes <;> cases hbit : bitN xs k <;> rw [hbit] at HS
          all_goals first
            | (go_wp2
               go_ret2
               exact ⟨by rw [← HK.out, HS.out]; rfl, HW.out.trans (HB3.out.mono HW.out.size)⟩)
            | (go_wp2
               go_roundw
               case rel => exact ⟨k + 1, d - 1, by go_num, by rw [← HK.out, HS.out]; rfl, by omega, HB3.out⟩
               case measure => simp [intOf]; omega)
        · rw [decide_eq_false (show ¬ (0 ≤ (k : Int) ∧ (k : Int) < 64 * (xs.length : Int)) from fun h => hkn h.2)]
          have h0 : d = 0 := by omega
          subst h0
          go_wp2
          go_ret2
          exact ⟨by rw [← hN]; rfl, HW.out.trans (HB2.out.mono HW.out.size)⟩
      · have h0 : d = 0 := by omega
        subst h0
        go_wp2
        go_ret2
        exact ⟨by rw [← hN]; rfl, HW.out.trans (HB1.out.mono HW.out.size)⟩
end Go.Proofs.Ytdadplpibdjjbaa
