/- Chapter 11: the walks of the reference's Next, of Count and of the reference's. Condition: the slice can be read. -/
import Derived.Test.YtdadplpibdjjbaaBits2
namespace Go.Proofs.Ytdadplpibdjjbaa
open Go.RowKit
set_option linter.unusedVariables false
set_option linter.unusedSimpArgs false
set_option maxRecDepth 100000 in
theorem refNext_any (xs : List (BitVec 64)) (c : Nat) (A : Option Addr) (yes : Bool) (i e : Int) (w : World) (hr : RdU w A xs) (hn : xs.length ≤ 1000) (hi : -9223372036854775808 ≤ i) (hi2 : i ≤ 9223372036854775807) (he : -9223372036854775808 ≤ e) (he2 : e ≤ 9223372036854775807) :
    Calls Try.prog 56 #[.slice A xs.length c, .bool yes, .int .i64 i, .int .i64 e] w fun r w' => r = .returned (optV (nextB xs yes i e)) ∧ w = w' := by
  have HR := Lib.hid hr
  clear hr
  generalize hR : nextB xs yes i e = R
  have hl : IntKind.i64.wrap (64 * (xs.length : Int)) = 64 * (xs.length : Int) := IntWalk.i64_in _ (by omega)
  by_cases h0 : i < 0
  · have HST := Lib.hid (show nextN xs yes 0 (manyB xs.length i e) = R ∧ ((manyB xs.length i e : Nat) : Int) = max (min e (64 * (xs.length : Int)) - ((0 : Nat) : Int)) 0 from ⟨by rw [← hR]; unfold nextB fromB; rw [show (max i 0).toNat = 0 by omega], by unfold manyB; omega⟩)
    clear hR
    go_enter Try.func56, Try.ntmps56
    go_wp2
    go_loop [10] (fun i => ∃ k d : Nat, i = .int .i64 k ∧ nextN xs yes k d = R ∧ (d : Int) = max (min e (64 * (xs.length : Int)) - (k : Int)) 0) (fun i => 64 * xs.length - (intOf i).toNat)
    case atStart => exact ⟨0, manyB xs.length i e, by first | rfl | go_num, HST.out.1, HST.out.2⟩
    case round =>
      obtain ⟨k, d, rfl, hN, hd⟩ := hrel
      by_cases hke : (k : Int) < e
      · by_cases hkn : (k : Int) < 64 * (xs.length : Int)
        · have HS := Lib.hid (nextN_step (xs := xs) (yes := yes) (k := k) (d := d) (by omega))
          have e1 : IntKind.i64.wrap ((k : Int) + 1) = (k : Int) + 1 := IntWalk.i64_in _ (by omega)
          go_wp2_with fail
          refine (HasBit_any xs c A k _ HR.out hn (by omega) (by omega)).mono ?_
          rintro r w3 ⟨rfl, rfl⟩
          rw [hasB_nat]
          have HK := Lib.hid hN
          clear hN
          cases yes <;> cases hbit : bitN xs k <;> rw [hbit] at HS
          all_goals first
            | (go_wp2
               go_ret2
               exact ⟨by rw [← HK.out, HS.out]; rfl, rfl⟩)
            | (go_wp2
               go_round
               case rel => exact ⟨k + 1, d - 1, by go_num, by rw [← HK.out, HS.out]; rfl, by omega⟩
               case measure => simp [intOf]; omega)
        · have h0 : d = 0 := by omega
          subst h0
          go_wp2
          go_ret2
          exact ⟨by rw [← hN]; rfl, rfl⟩
      · have h0 : d = 0 := by omega
        subst h0
        go_wp2
        go_ret2
        exact ⟨by rw [← hN]; rfl, rfl⟩
  · obtain ⟨m, rfl⟩ := Int.eq_ofNat_of_zero_le (show 0 ≤ i by omega)
    have HST := Lib.hid (show nextN xs yes m (manyB xs.length (m : Int) e) = R ∧ ((manyB xs.length (m : Int) e : Nat) : Int) = max (min e (64 * (xs.length : Int)) - (m : Int)) 0 from ⟨by rw [← hR]; unfold nextB fromB; rw [show (max (m : Int) 0).toNat = m by omega], by unfold manyB; omega⟩)
    clear hR
    go_enter Try.func56, Try.ntmps56
    go_wp2
    go_loop [10] (fun i => ∃ k d : Nat, i = .int .i64 k ∧ nextN xs yes k d = R ∧ (d : Int) = max (min e (64 * (xs.length : Int)) - (k : Int)) 0) (fun i => 64 * xs.length - (intOf i).toNat)
    case atStart => exact ⟨m, manyB xs.length (m : Int) e, by first | rfl | go_num, HST.out.1, HST.out.2⟩
    case round =>
      obtain ⟨k, d, rfl, hN, hd⟩ := hrel
      by_cases hke : (k : Int) < e
      · by_cases hkn : (k : Int) < 64 * (xs.length : Int)
        · have HS := Lib.hid (nextN_step (xs := xs) (yes := yes) (k := k) (d := d) (by omega))
          have e1 : IntKind.i64.wrap ((k : Int) + 1) = (k : Int) + 1 := IntWalk.i64_in _ (by omega)
          go_wp2_with fail
          refine (HasBit_any xs c A k _ HR.out hn (by omega) (by omega)).mono ?_
          rintro r w3 ⟨rfl, rfl⟩
          rw [hasB_nat]
          have HK := Lib.hid hN
          clear hN
          cases yes <;> cases hbit : bitN xs k <;> rw [hbit] at HS
          all_goals first
            | (go_wp2
               go_ret2
               exact ⟨by rw [← HK.out, HS.out]; rfl, rfl⟩)
            | (go_wp2
               go_round
               case rel => exact ⟨k + 1, d - 1, by go_num, by rw [← HK.out, HS.out]; rfl, by omega⟩
               case measure => simp [intOf]; omega)
        · have h0 : d = 0 := by omega
          subst h0
          go_wp2
          go_ret2
          exact ⟨by rw [← hN]; rfl, rfl⟩
      · have h0 : d = 0 := by omega
        subst h0
        go_wp2
        go_ret2
        exact ⟨by rw [← hN]; rfl, rfl⟩
set_option maxRecDepth 100000 in
theorem Count_any (xs : List (BitVec 64)) (c : Nat) (A : Option Addr) (w : World) (hr : RdU w A xs) (hn : xs.length ≤ 1000) :
    Calls Try.prog 41 #[.agg #[.slice A xs.length c]] w fun r w' => r = .returned (.int .i64 (cntB xs (64 * xs.length) : Nat)) ∧ Below w.heap.size w w' := by
  have HR := Lib.hid hr
  clear hr
  have HW := Lib.hid ((Below.refl w.heap.size w).alloc (Nat.le_refl _) (.cells #[.slice A xs.length c] 53))
  have HS0 := Lib.hid (Below.refl (w.alloc (.cells #[.slice A xs.length c] 53)).heap.size (w.alloc (.cells #[.slice A xs.length c] 53)))
  have hl : IntKind.i64.wrap (64 * (xs.length : Int)) = 64 * (xs.length : Int) := IntWalk.i64_in _ (by omega)
  go_enter Try.func41, Try.ntmps41
  go_wp2
  go_loopw [3, 9] (fun n i wr => ∃ k : Nat, k ≤ 64 * xs.length ∧ i = .int .i64 k ∧ n = .int .i64 (cntB xs k : Nat) ∧ Below (w.alloc (.cells #[.slice A xs.length c] 53)).heap.size (w.alloc (.cells #[.slice A xs.length c] 53)) wr) (fun _ i _ => 64 * xs.length - (intOf i).toNat)
  case atStart => exact ⟨0, Nat.zero_le _, rfl, rfl, HS0.out⟩
  case round =>
    obtain ⟨k, hk, rfl, rfl, hb1⟩ := hrel
    have HB1 := Lib.hid hb1
    clear hb1
    have hc0 := bits_cell HB1.out
    by_cases hlt : (k : Int) < 64 * (xs.length : Int)
    · have hcl := cntB_le xs k
      have HC := Lib.hid (show cntB xs (k + 1) = cntB xs k + if bitN xs k = true then 1 else 0 from rfl)
      generalize cntB xs k = m at *
      have e1 : IntKind.i64.wrap ((k : Int) + 1) = (k : Int) + 1 := IntWalk.i64_in _ (by omega)
      have e2 : IntKind.i64.wrap ((m : Int) + 1) = (m : Int) + 1 := IntWalk.i64_in _ (by omega)
      go_wp2_with fail
      refine (Has_any xs c A k _ (HR.out.below (HW.out.trans (HB1.out.mono HW.out.size))) hn (by omega) (by omega)).mono ?_
      rintro r w3 ⟨rfl, hb⟩
      have HB3 := Lib.hid (HB1.out.trans (hb.mono HB1.out.size))
      clear hb
      rw [hasB_nat]
      cases hbit : bitN xs k <;> rw [hbit] at HC
      · go_wp2
        go_roundw
        case rel => exact ⟨k + 1, by omega, by go_num, by rw [HC.out]; rfl, HB3.out⟩
        case measure => simp [intOf]; omega
      · go_wp2
        go_roundw
        case rel => exact ⟨k + 1, by omega, by go_num, by rw [HC.out]; rfl, HB3.out⟩
        case measure => simp [intOf]; omega
    · obtain rfl : k = 64 * xs.length := by omega
      go_wp2
      go_ret
      exact ⟨rfl, HW.out.trans (HB1.out.mono HW.out.size)⟩
set_option maxRecDepth 100000 in
theorem refCount_any (xs : List (BitVec 64)) (c : Nat) (A : Option Addr) (w : World) (hr : RdU w A xs) (hn : xs.length ≤ 1000) :
    Calls Try.prog 60 #[.slice A xs.length c] w fun r w' => r = .returned (.int .i64 (cntB xs (64 * xs.length) : Nat)) ∧ w = w' := by
  have HR := Lib.hid hr
  clear hr
  have hl : IntKind.i64.wrap (64 * (xs.length : Int)) = 64 * (xs.length : Int) := IntWalk.i64_in _ (by omega)
  go_enter Try.func60, Try.ntmps60
  go_wp2
  go_loop [3, 4] (fun n i => ∃ k : Nat, k ≤ 64 * xs.length ∧ i = .int .i64 k ∧ n = .int .i64 (cntB xs k : Nat)) (fun _ i => 64 * xs.length - (intOf i).toNat)
  case atStart => exact ⟨0, Nat.zero_le _, rfl, rfl⟩
  case round =>
    obtain ⟨k, hk, rfl, rfl⟩ := hrel
    by_cases hlt : (k : Int) < 64 * (xs.length : Int)
    · have hcl := cntB_le xs k
      have HC := Lib.hid (show cntB xs (k + 1) = cntB xs k + if bitN xs k = true then 1 else 0 from rfl)
      generalize cntB xs k = m at *
      have e1 : IntKind.i64.wrap ((k : Int) + 1) = (k : Int) + 1 := IntWalk.i64_in _ (by omega)
      have e2 : IntKind.i64.wrap ((m : Int) + 1) = (m : Int) + 1 := IntWalk.i64_in _ (by omega)
      go_wp2_with fail
      refine (HasBit_any xs c A k _ HR.out hn (by omega) (by omega)).mono ?_
      rintro r w3 ⟨rfl, rfl⟩
      rw [hasB_nat]
      cases hbit : bitN xs k <;> rw [hbit] at HC
      · go_wp2
        go_round
        case rel => exact ⟨k + 1, by omega, by go_num, by rw [HC.out]; rfl⟩
        case measure => simp [intOf]; omega
      · go_wp2
        go_round
        case rel => exact ⟨k + 1, by omega, by go_num, by rw [HC.out]; rfl⟩
        case measure => simp [intOf]; omega
    · obtain rfl : k = 64 * xs.length := by omega
      go_wp2
      go_ret
      exact ⟨rfl, rfl⟩
end Go.Proofs.Ytdadplpibdjjbaa
