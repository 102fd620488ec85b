/- Chapter 11: the walks of Free and of the reference's. Condition: the slice can be read. -/
import Derived.Test.YtdadplpibdjjbaaBits3
namespace Go.Proofs.Ytdadplpibdjjbaa
open Go.RowKit
set_option linter.unusedVariables false
set_option linter.unusedSimpArgs false
def freeB (xs : List (BitVec 64)) (from_ end_ n : Int) : Option Nat := if n < 1 then none else freeN xs n.toNat (fromB from_) 0 (manyB xs.length from_ end_)
theorem freeN_step {xs : List (BitVec 64)} {n k row d : Nat} (hd : 0 < d) : freeN xs n k row d = if (if bitN xs k = true then 0 else row + 1) = n then some (k + 1 - n) else freeN xs n (k + 1) (if bitN xs k = true then 0 else row + 1) (d - 1) := by
  cases d with
  | zero => omega
  | succ d => rfl
set_option maxRecDepth 100000 in
theorem Free_any (xs : List (BitVec 64)) (c : Nat) (A : Option Addr) (i e z : Int) (w : World) (hr : RdU w A xs) (hn : xs.length ≤ 1000) (hi : -9223372036854775808 ≤ i) (hi2 : i ≤ 9223372036854775807) (he : -9223372036854775808 ≤ e) (he2 : e ≤ 9223372036854775807) (hz : -9223372036854775808 ≤ z) (hz2 : z ≤ 9223372036854775807) :
    Calls Try.prog 55 #[.agg #[.slice A xs.length c], .int .i64 i, .int .i64 e, .int .i64 z] w fun r w' => r = .returned (optV (freeB xs i e z)) ∧ Below w.heap.size w w' := by
  have HR := Lib.hid hr
  clear hr
  have HW := Lib.hid ((Below.refl w.heap.size w).alloc (Nat.le_refl _) (.cells #[.slice A xs.length c] 53))
  have HS0 := Lib.hid (Below.refl (w.alloc (.cells #[.slice A xs.length c] 53)).heap.size (w.alloc (.cells #[.slice A xs.length c] 53)))
  have hl : IntKind.i64.wrap (64 * (xs.length : Int)) = 64 * (xs.length : Int) := IntWalk.i64_in _ (by omega)
  by_cases hz1 : z < 1
  · have HF := Lib.hid (show freeB xs i e z = none by unfold freeB; rw [if_pos hz1])
    go_enter Try.func55, Try.ntmps55
    go_wp2
    go_ret2
    exact ⟨by rw [HF.out]; rfl, HW.out⟩
  obtain ⟨n, rfl⟩ := Int.eq_ofNat_of_zero_le (show 0 ≤ z by omega)
  have hn1 : 1 ≤ (n : Int) := by omega
  generalize hR : freeB xs i e (n : Int) = R
  have hR' : freeN xs n (fromB i) 0 (manyB xs.length i e) = R := by rw [← hR]; unfold freeB; rw [if_neg hz1]; rfl
  clear hR
  by_cases h0 : i < 0
  · have HST := Lib.hid (show freeN xs n 0 0 (manyB xs.length i e) = R ∧ ((manyB xs.length i e : Nat) : Int) = max (min e (64 * (xs.length : Int)) - ((0 : Nat) : Int)) 0 from ⟨by rw [← hR']; unfold fromB; rw [show (max i 0).toNat = 0 by omega], by unfold manyB; omega⟩)
    clear hR'
    go_enter Try.func55, Try.ntmps55
    go_wp2
    go_loopw [10, 11] (fun r i wr => ∃ k d row : Nat, i = .int .i64 k ∧ r = .int .i64 row ∧ row < n ∧ row ≤ k ∧ freeN xs n k row d = R ∧ (d : Int) = max (min e (64 * (xs.length : Int)) - (k : Int)) 0 ∧ Below (w.alloc (.cells #[.slice A xs.length c] 53)).heap.size (w.alloc (.cells #[.slice A xs.length c] 53)) wr) (fun _ i _ => 64 * xs.length - (intOf i).toNat)
    case atStart => exact ⟨0, manyB xs.length i e, 0, by first | rfl | go_num, by first | rfl | go_num, by omega, by omega, HST.out.1, HST.out.2, HS0.out⟩
    case round =>
      obtain ⟨k, d, row, rfl, rfl, hrow, hrk, hN, hd, hb1⟩ := hrel
      have HB1 := Lib.hid hb1
      clear hb1
      have hc0 := bits_cell HB1.out
      by_cases hke : (k : Int) < e
      · go_wp2_with fail
        refine (there_any _ _ _ _ _ hn (by omega) (by omega)).mono ?_
        rintro r w2 ⟨rfl, hb⟩
        have HB2 := Lib.hid (HB1.out.trans (hb.mono HB1.out.size))
        have hc0 := bits_cell HB2.out
        clear hb
        by_cases hkn : (k : Int) < 64 * (xs.length : Int)
        · have HS := Lib.hid (freeN_step (xs := xs) (n := n) (k := k) (row := row) (d := d) (by omega))
          rw [decide_eq_true (show 0 ≤ (k : Int) ∧ (k : Int) < 64 * (xs.length : Int) from ⟨by omega, hkn⟩)]
          have e1 : IntKind.i64.wrap ((k : Int) + 1) = (k : Int) + 1 := IntWalk.i64_in _ (by omega)
          have e2 : IntKind.i64.wrap ((row : Int) + 1) = (row : Int) + 1 := IntWalk.i64_in _ (by omega)
          have e3 : IntKind.i64.wrap ((k : Int) - (n : Int)) = (k : Int) - (n : Int) := IntWalk.i64_in _ (by omega)
          have e4 : IntKind.i64.wrap ((k : Int) - (n : Int) + 1) = (k : Int) - (n : Int) + 1 := IntWalk.i64_in _ (by omega)
          have HK := Lib.hid hN
          clear hN
          go_wp2_with fail
          refine (Has_any xs c A k _ (HR.out.below (HW.out.trans (HB2.out.mono HW.out.size))) hn (by omega) (by omega)).mono ?_
          rintro r w3 ⟨rfl, hb⟩
          have HB3 := Lib.hid (HB2.out.trans (hb.mono HB2.out.size))
          clear hb
          rw [hasB_nat]
          cases hbit : bitN xs k <;> rw [hbit] at HS
          · by_cases hrn : row + 1 = n
            · have hrn' : (row : Int) + 1 = (n : Int) := by omega
              have HV := Lib.hid (show (.int .i64 ((k : Int) - (n : Int) + 1) : Value) = .int .i64 ((k + 1 - n : Nat) : Int) by congr 1; omega)
              go_wp2
              go_ret2
              exact ⟨by rw [← HK.out, HS.out, if_pos (by simpa using hrn)]; unfold optV; dsimp only; rw [← HV.out]; rfl, HW.out.trans (HB3.out.mono HW.out.size)⟩
            · have hrn' : ¬ (row : Int) + 1 = (n : Int) := by omega
              go_wp2
              go_roundw
              case rel => exact ⟨k + 1, d - 1, row + 1, by go_num, by go_num, by omega, by omega, by rw [← HK.out, HS.out, if_neg (by simpa using hrn)]; rfl, by omega, HB3.out⟩
              case measure => simp [intOf]; omega
          · have hrn' : ¬ (0 : Int) = (n : Int) := by omega
            go_wp2
            go_roundw
            case rel => exact ⟨k + 1, d - 1, 0, by go_num, by go_num, by omega, by omega, by rw [← HK.out, HS.out, if_neg (by simp; omega)]; rfl, by omega, HB3.out⟩
            case measure => simp [intOf]; omega
        · rw [decide_eq_false (show ¬ (0 ≤ (k : Int) ∧ (k : Int) < 64 * (xs.length : Int)) from fun h => hkn h.2)]
          have h0 : d = 0 := by omega
          subst h0
          go_wp2
          go_ret2
          exact ⟨by rw [← hN]; rfl, HW.out.trans (HB2.out.mono HW.out.size)⟩
      · have h0 : d = 0 := by omega
        subst h0
        go_wp2
        go_ret2
        exact ⟨by rw [← hN]; rfl, HW.out.trans (HB1.out.mono HW.out.size)⟩
  · obtain ⟨m, rfl⟩ := Int.eq_ofNat_of_zero_le (show 0 ≤ i by omega)
    have HST := Lib.hid (show freeN xs n m 0 (manyB xs.length (m : Int) e) = R ∧ ((manyB xs.length (m : Int) e : Nat) : Int) = max (min e (64 * (xs.length : Int)) - (m : Int)) 0 from ⟨by rw [← hR']; unfold fromB; rw [show (max (m : Int) 0).toNat = m by omega], by unfold manyB; omega⟩)
    clear hR'
    go_enter Try.func55, Try.ntmps55
    go_wp2
    go_loopw [10, 11] (fun r i wr => ∃ k d row : Nat, i = .int .i64 k ∧ r = .int .i64 row ∧ row < n ∧ row ≤ k ∧ freeN xs n k row d = R ∧ (d : Int) = max (min e (64 * (xs.length : Int)) - (k : Int)) 0 ∧ Below (w.alloc (.cells #[.slice A xs.length c] 53)).heap.size (w.alloc (.cells #[.slice A xs.length c] 53)) wr) (fun _ i _ => 64 * xs.length - (intOf i).toNat)
    case atStart => exact ⟨m, manyB xs.length (m : Int) e, 0, by first | rfl | go_num, by first | rfl | go_num, by omega, by omega, HST.out.1, HST.out.2, HS0.out⟩
    case round =>
      obtain ⟨k, d, row, rfl, rfl, hrow, hrk, hN, hd, hb1⟩ := hrel
      have HB1 := Lib.hid hb1
      clear hb1
      have hc0 := bits_cell HB1.out
      by_cases hke : (k : Int) < e
      · go_wp2_with fail
        refine (there_any _ _ _ _ _ hn (by omega) (by omega)).mono ?_
        rintro r w2 ⟨rfl, hb⟩
        have HB2 := Lib.hid (HB1.out.trans (hb.mono HB1.out.size))
        have hc0 := bits_cell HB2.out
        clear hb
        by_cases hkn : (k : Int) < 64 * (xs.length : Int)
        · have HS := Lib.hid (freeN_step (xs := xs) (n := n) (k := k) (row := row) (d := d) (by omega))
          rw [decide_eq_true (show 0 ≤ (k : Int) ∧ (k : Int) < 64 * (xs.length : Int) from ⟨by omega, hkn⟩)]
          have e1 : IntKind.i64.wrap ((k : Int) + 1) = (k : Int) + 1 := IntWalk.i64_in _ (by omega)
          have e2 : IntKind.i64.wrap ((row : Int) + 1) = (row : Int) + 1 := IntWalk.i64_in _ (by omega)
          have e3 : IntKind.i64.wrap ((k : Int) - (n : Int)) = (k : Int) - (n : Int) := IntWalk.i64_in _ (by omega)
          have e4 : IntKind.i64.wrap ((k : Int) - (n : Int) + 1) = (k : Int) - (n : Int) + 1 := IntWalk.i64_in _ (by omega)
          have HK := Lib.hid hN
          clear hN
          go_wp2_with fail
          refine (Has_any xs c A k _ (HR.out.below (HW.out.trans (HB2.out.mono HW.out.size))) hn (by omega) (by omega)).mono ?_
          rintro r w3 ⟨rfl, hb⟩
          have HB3 := Lib.hid (HB2.out.trans (hb.mono HB2.out.size))
          clear hb
          rw [hasB_nat]
          cases hbit : bitN xs k <;> rw [hbit] at HS
          · by_cases hrn : row + 1 = n
            · have hrn' : (row : Int) + 1 = (n : Int) := by omega
              have HV := Lib.hid (show (.int .i64 ((k : Int) - (n : Int) + 1) : Value) = .int .i64 ((k + 1 - n : Nat) : Int) by congr 1; omega)
              go_wp2
              go_ret2
              exact ⟨by rw [← HK.out, HS.out, if_pos (by simpa using hrn)]; unfold optV; dsimp only; rw [← HV.out]; rfl, HW.out.trans (HB3.out.mono HW.out.size)⟩
            · have hrn' : ¬ (row : Int) + 1 = (n : Int) := by omega
              go_wp2
              go_roundw
              case rel => exact ⟨k + 1, d - 1, row + 1, by go_num, by go_num, by omega, by omega, by rw [← HK.out, HS.out, if_neg (by simpa using hrn)]; rfl, by omega, HB3.out⟩
              case measure => simp [intOf]; omega
          · have hrn' : ¬ (0 : Int) = (n : Int) := by omega
            go_wp2
            go_roundw
            case rel => exact ⟨k + 1, d - 1, 0, by go_num, by go_num, by omega, by omega, by rw [← HK.out, HS.out, if_neg (by simp; omega)]; rfl, by omega, HB3.out⟩
            case measure => simp [intOf]; omega
        · rw [decide_eq_false (show ¬ (0 ≤ (k : Int) ∧ (k : Int) < 64 * (xs.length : Int)) from fun h => hkn h.2)]
          have h0 : d = 0 := by omega
          subst h0
          go_wp2
          go_ret2
          exact ⟨by rw [← hN]; rfl, HW.out.trans (HB2.out.mono HW.out.size)⟩
      · have h0 : d = 0 := by omega
        subst h0
        go_wp2
        go_ret2
        exact ⟨by rw [← hN]; rfl, HW.out.trans (HB1.out.mono HW.out.size)⟩
set_option maxRecDepth 100000 in
theorem refFree_any (xs : List (BitVec 64)) (c : Nat) (A : Option Addr) (i e z : Int) (w : World) (hr : RdU w A xs) (hn : xs.length ≤ 1000) (hi : -9223372036854775808 ≤ i) (hi2 : i ≤ 9223372036854775807) (he : -9223372036854775808 ≤ e) (he2 : e ≤ 9223372036854775807) (hz : -9223372036854775808 ≤ z) (hz2 : z ≤ 9223372036854775807) :
    Calls Try.prog 57 #[.slice A xs.length c, .int .i64 i, .int .i64 e, .int .i64 z] w fun r w' => r = .returned (optV (freeB xs i e z)) ∧ w = w' := by
  have HR := Lib.hid hr
  clear hr
  have hl : IntKind.i64.wrap (64 * (xs.length : Int)) = 64 * (xs.length : Int) := IntWalk.i64_in _ (by omega)
  by_cases hz1 : z < 1
  · have HF := Lib.hid (show freeB xs i e z = none by unfold freeB; rw [if_pos hz1])
    by_cases h0 : i < 0
    · by_cases hie : (0 : Int) < e
      · by_cases hil : (0 : Int) < 64 * (xs.length : Int)
        · go_enter Try.func57, Try.ntmps57
          go_wp2
          go_loop [10, 11] (fun r i => i = .int .i64 0) (fun _ _ => 0)
          case atStart => rfl
          case round =>
            subst hrel
            go_wp2
            go_ret2
            exact ⟨by rw [HF.out]; rfl, rfl⟩
        · go_enter Try.func57, Try.ntmps57
          go_wp2
          go_loop [10, 11] (fun r i => i = .int .i64 0) (fun _ _ => 0)
          case atStart => rfl
          case round =>
            subst hrel
            go_wp2
            go_ret2
            exact ⟨by rw [HF.out]; rfl, rfl⟩
      · go_enter Try.func57, Try.ntmps57
        go_wp2
        go_loop [10, 11] (fun r i => i = .int .i64 0) (fun _ _ => 0)
        case atStart => rfl
        case round =>
          subst hrel
          go_wp2
          go_ret2
          exact ⟨by rw [HF.out]; rfl, rfl⟩
    · by_cases hie : i < e
      · by_cases hil : i < 64 * (xs.length : Int)
        · go_enter Try.func57, Try.ntmps57
          go_wp2
          go_loop [10, 11] (fun r j => j = .int .i64 i) (fun _ _ => 0)
          case atStart => rfl
          case round =>
            subst hrel
            go_wp2
            go_ret2
            exact ⟨by rw [HF.out]; rfl, rfl⟩
        · go_enter Try.func57, Try.ntmps57
          go_wp2
          go_loop [10, 11] (fun r j => j = .int .i64 i) (fun _ _ => 0)
          case atStart => rfl
          case round =>
            subst hrel
            go_wp2
            go_ret2
            exact ⟨by rw [HF.out]; rfl, rfl⟩
      · go_enter Try.func57, Try.ntmps57
        go_wp2
        go_loop [10, 11] (fun r j => j = .int .i64 i) (fun _ _ => 0)
        case atStart => rfl
        case round =>
          subst hrel
          go_wp2
          go_ret2
          exact ⟨by rw [HF.out]; rfl, rfl⟩
  obtain ⟨n, rfl⟩ := Int.eq_ofNat_of_zero_le (show 0 ≤ z by omega)
  have hn1 : 1 ≤ (n : Int) := by omega
  generalize hR : freeB xs i e (n : Int) = R
  have hR' : freeN xs n (fromB i) 0 (manyB xs.length i e) = R := by rw [← hR]; unfold freeB; rw [if_neg hz1]; rfl
  clear hR
  by_cases h0 : i < 0
  · have HST := Lib.hid (show freeN xs n 0 0 (manyB xs.length i e) = R ∧ ((manyB xs.length i e : Nat) : Int) = max (min e (64 * (xs.length : Int)) - ((0 : Nat) : Int)) 0 from ⟨by rw [← hR']; unfold fromB; rw [show (max i 0).toNat = 0 by omega], by unfold manyB; omega⟩)
    clear hR'
    go_enter Try.func57, Try.ntmps57
    go_wp2
    go_loop [10, 11] (fun r i => ∃ k d row : Nat, i = .int .i64 k ∧ r = .int .i64 row ∧ row < n ∧ row ≤ k ∧ freeN xs n k row d = R ∧ (d : Int) = max (min e (64 * (xs.length : Int)) - (k : Int)) 0) (fun _ i => 64 * xs.length - (intOf i).toNat)
    case atStart => exact ⟨0, manyB xs.length i e, 0, by first | rfl | go_num, by first | rfl | go_num, by omega, by omega, HST.out.1, HST.out.2⟩
    case round =>
      obtain ⟨k, d, row, rfl, rfl, hrow, hrk, hN, hd⟩ := hrel
      by_cases hke : (k : Int) < e
      · by_cases hkn : (k : Int) < 64 * (xs.length : Int)
        · have HS := Lib.hid (freeN_step (xs := xs) (n := n) (k := k) (row := row) (d := d) (by omega))
          have e1 : IntKind.i64.wrap ((k : Int) + 1) = (k : Int) + 1 := IntWalk.i64_in _ (by omega)
          have e2 : IntKind.i64.wrap ((row : Int) + 1) = (row : Int) + 1 := IntWalk.i64_in _ (by omega)
          have e3 : IntKind.i64.wrap ((k : Int) - (n : Int)) = (k : Int) - (n : Int) := IntWalk.i64_in _ (by omega)
          have e4 : IntKind.i64.wrap ((k : Int) - (n : Int) + 1) = (k : Int) - (n : Int) + 1 := IntWalk.i64_in _ (by omega)
          have HK := Lib.hid hN
          clear hN
          go_wp2_with fail
          refine (HasBit_any xs c A k _ HR.out hn (by omega) (by omega)).mono ?_
          rintro r w3 ⟨rfl, rfl⟩
          rw [hasB_nat]
          cases hbit : bitN xs k <;> rw [hbit] at HS
          · by_cases hrn : row + 1 = n
            · have hrn' : (row : Int) + 1 = (n : Int) := by omega
              have HV := Lib.hid (show (.int .i64 ((k : Int) - (n : Int) + 1) : Value) = .int .i64 ((k + 1 - n : Nat) : Int) by congr 1; omega)
              go_wp2
              go_ret2
              exact ⟨by rw [← HK.out, HS.out, if_pos (by simpa using hrn)]; unfold optV; dsimp only; rw [← HV.out]; rfl, rfl⟩
            · have hrn' : ¬ (row : Int) + 1 = (n : Int) := by omega
              go_wp2
              go_round
              case rel => exact ⟨k + 1, d - 1, row + 1, by go_num, by go_num, by omega, by omega, by rw [← HK.out, HS.out, if_neg (by simpa using hrn)]; rfl, by omega⟩
              case measure => simp [intOf]; omega
          · have hrn' : ¬ (0 : Int) = (n : Int) := by omega
            go_wp2
            go_round
            case rel => exact ⟨k + 1, d - 1, 0, by go_num, by go_num, by omega, by omega, by rw [← HK.out, HS.out, if_neg (by simp; omega)]; rfl, by omega⟩
            case measure => simp [intOf]; omega
        · have h0 : d = 0 := by omega
          subst h0
          go_wp2
          go_ret2
          exact ⟨by rw [← hN]; rfl, rfl⟩
      · have h0 : d = 0 := by omega
        subst h0
        go_wp2
        go_ret2
        exact ⟨by rw [← hN]; rfl, rfl⟩
  · obtain ⟨m, rfl⟩ := Int.eq_ofNat_of_zero_le (show 0 ≤ i by omega)
    have HST := Lib.hid (show freeN xs n m 0 (manyB xs.length (m : Int) e) = R ∧ ((manyB xs.length (m : Int) e : Nat) : Int) = max (min e (64 * (xs.length : Int)) - (m : Int)) 0 from ⟨by rw [← hR']; unfold fromB; rw [show (max (m : Int) 0).toNat = m by omega], by unfold manyB; omega⟩)
    clear hR'
    go_enter Try.func57, Try.ntmps57
    go_wp2
    go_loop [10, 11] (fun r i => ∃ k d row : Nat, i = .int .i64 k ∧ r = .int .i64 row ∧ row < n ∧ row ≤ k ∧ freeN xs n k row d = R ∧ (d : Int) = max (min e (64 * (xs.length : Int)) - (k : Int)) 0) (fun _ i => 64 * xs.length - (intOf i).toNat)
    case atStart => exact ⟨m, manyB xs.length (m : Int) e, 0, by first | rfl | go_num, by first | rfl | go_num, by omega, by omega, HST.out.1, HST.out.2⟩
    case round =>
      obtain ⟨k, d, row, rfl, rfl, hrow, hrk, hN, hd⟩ := hrel
      by_cases hke : (k : Int) < e
      · by_cases hkn : (k : Int) < 64 * (xs.length : Int)
        · have HS := Lib.hid (freeN_step (xs := xs) (n := n) (k := k) (row := row) (d := d) (by omega))
          have e1 : IntKind.i64.wrap ((k : Int) + 1) = (k : Int) + 1 := IntWalk.i64_in _ (by omega)
          have e2 : IntKind.i64.wrap ((row : Int) + 1) = (row : Int) + 1 := IntWalk.i64_in _ (by omega)
          have e3 : IntKind.i64.wrap ((k : Int) - (n : Int)) = (k : Int) - (n : Int) := IntWalk.i64_in _ (by omega)
          have e4 : IntKind.i64.wrap ((k : Int) - (n : Int) + 1) = (k : Int) - (n : Int) + 1 := IntWalk.i64_in _ (by omega)
          have HK := Lib.hid hN
          clear hN
          go_wp2_with fail
          refine (HasBit_any xs c A k _ HR.out hn (by omega) (by omega)).mono ?_
          rintro r w3 ⟨rfl, rfl⟩
          rw [hasB_nat]
          cases hbit : bitN xs k <;> rw [hbit] at HS
          · by_cases hrn : row + 1 = n
            · have hrn' : (row : Int) + 1 = (n : Int) := by omega
              have HV := Lib.hid (show (.int .i64 ((k : Int) - (n : Int) + 1) : Value) = .int .i64 ((k + 1 - n : Nat) : Int) by congr 1; omega)
              go_wp2
              go_ret2
              exact ⟨by rw [← HK.out, HS.out, if_pos (by simpa using hrn)]; unfold optV; dsimp only; rw [← HV.out]; rfl, rfl⟩
            · have hrn' : ¬ (row : Int) + 1 = (n : Int) := by omega
              go_wp2
              go_round
              case rel => exact ⟨k + 1, d - 1, row + 1, by go_num, by go_num, by omega, by omega, by rw [← HK.out, HS.out, if_neg (by simpa using hrn)]; rfl, by omega⟩
              case measure => simp [intOf]; omega
          · have hrn' : ¬ (0 : Int) = (n : Int) := by omega
            go_wp2
            go_round
            case rel => exact ⟨k + 1, d - 1, 0, by go_num, by go_num, by omega, by omega, by rw [← HK.out, HS.out, if_neg (by simp; omega)]; rfl, by omega⟩
            case measure => simp [intOf]; omega
        · have h0 : d = 0 := by omega
          subst h0
          go_wp2
          go_ret2
          exact ⟨by rw [← hN]; rfl, rfl⟩
      · have h0 : d = 0 := by omega
        subst h0
        go_wp2
        go_ret2
        exact ⟨by rw [← hN]; rfl, rfl⟩
end Go.Proofs.Ytdadplpibdjjbaa
