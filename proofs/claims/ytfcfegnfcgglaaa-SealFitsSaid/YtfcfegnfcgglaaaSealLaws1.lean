/- The walks of the statements SealSays and what they lean on: awake. -/
import Derived.Test.YtfcfegnfcgglaaaSealRefWalks
namespace Go.Proofs.Ytfcfegnfcgglaaa
open Go.RowKit
set_option linter.unusedVariables false

theorem infoU : (Try.prog.info? 23).map (fun i => (i.zero, i.size, i.bytes)) = some (some (.int .u64 0), 1, 8) := by kernel_rfl
theorem sealOf_nil : sealOf [] = 7811896474847682849#64 := rfl
theorem sealAwake_any (w : World) :
    Calls Try.prog 14 #[] w fun e w' => e = .returned (.bool true) ∧ Below w.heap.size w w' := by
  go_enter Try.func14, Try.ntmps14
  go_wp2_with fail
  refine (Of_any [] none 0 _ RdU.nil_ (by decide)).mono ?_
  rintro e w' ⟨rfl, rfl⟩
  rw [sealOf_nil]
  go_wp2_with fail
  refine (Of_any [] none 0 _ RdU.nil_ (by decide)).mono ?_
  rintro e w' ⟨rfl, rfl⟩
  rw [sealOf_nil]
  go_wp2_with fail
  refine (Fits_any [7811896474847682849#64] (some ⟨w.heap.size, 0, none⟩) 1 _ (RdU.new1 _ _ _) (by decide) (by decide)).mono ?_
  rintro e w' ⟨rfl, hw⟩
  rw [show sealFits [7811896474847682849#64] = true from rfl]
  have HW := Lib.hid (((Below.refl w.heap.size w).alloc (Nat.le_refl _) _).trans (hw.below _))
  clear hw
  go_wp2_with fail
  refine (Fits_any [] none 0 _ RdU.nil_ (by decide) (by decide)).mono ?_
  rintro e w2 ⟨rfl, hw⟩
  rw [show sealFits [] = false from rfl]
  have HW2 := Lib.hid (HW.out.trans (hw.below _))
  clear hw
  go_wp2
  go_ret
  exact ⟨rfl, HW2.out⟩

theorem SealSays_walk (xs : List (BitVec 64)) (A : Option Addr) (c : Nat) (at_ : Int) (s : BitVec 64) (w : World) (hr : RdU w A xs) (hc : xs.length ≤ c) (_hm : c ≤ maxLen)
    (hat : -9223372036854775808 ≤ at_) (hat2 : at_ ≤ 9223372036854775807) :
    Calls Try.prog 3 #[.slice A xs.length c, .int .i64 at_, U s] w fun e w' => e = .returned (.bool true) ∧ Below w.heap.size w w' := by
  unfold maxLen at _hm
  have HR := Lib.hid hr
  clear hr
  go_enter Try.func3, Try.ntmps3
  go_wp2_with fail
  refine (sealAwake_any _).mono ?_
  rintro e w1 ⟨rfl, hw⟩
  have HW := Lib.hid hw
  clear hw
  by_cases hlong : 100 < xs.length
  · go_wp2_with fail
    go_ret
    exact ⟨rfl, HW.out⟩
  · go_wp2_with fail
    refine (Of_any xs A c _ (HR.out.below HW.out) (by unfold maxLen; omega)).mono ?_
    rintro e w2 ⟨rfl, rfl⟩
    go_wp2_with fail
    refine (refOf_any xs A c _ (HR.out.below HW.out) (by unfold maxLen; omega)).mono ?_
    rintro e w2 ⟨rfl, hd⟩
    have HW := Lib.hid (HW.out.trans (hd.below _))
    clear hd
    go_wp2_with fail
    refine (On_any s xs A c _ (HR.out.below HW.out) (by unfold maxLen; omega)).mono ?_
    rintro e w3 ⟨rfl, rfl⟩
    go_wp2_with fail
    refine (refSeal_any s xs A c _ (HR.out.below HW.out) (by unfold maxLen; omega)).mono ?_
    rintro e w3 ⟨rfl, hd⟩
    have HW := Lib.hid (HW.out.trans (hd.below _))
    clear hd
    go_wp2_with fail
    refine (Fits_any xs A c _ (HR.out.below HW.out) (by unfold maxLen; omega) hc).mono ?_
    rintro e w4 ⟨rfl, hd⟩
    have HW := Lib.hid (HW.out.trans (hd.below _))
    clear hd
    go_wp2_with fail
    refine (refFits_any xs A c _ (HR.out.below HW.out) (by unfold maxLen; omega) hc).mono ?_
    rintro e w5 ⟨rfl, hd⟩
    have HW := Lib.hid (HW.out.trans (hd.below _))
    clear hd
    by_cases h1 : at_ < 0
    · go_wp2_with fail
      go_ret
      exact ⟨rfl, HW.out⟩
    by_cases h2 : at_ > xs.length
    · go_wp2_with fail
      go_ret
      exact ⟨rfl, HW.out⟩
    obtain ⟨k, rfl⟩ := Int.eq_ofNat_of_zero_le (show 0 ≤ at_ by omega)
    obtain ⟨i0, hi, _, hi1, _⟩ := info_parts infoU
    have hk : k ≤ xs.length := by omega
    have hsl := run_cut_l (P := Try.prog) 22 23 i0 Try.underlying22 hi hi1 A xs.length c k .i64 hk
    have hfin := Lib.hid (show (sealOn (sealOf (xs.take k)) (xs.drop k) == sealOf xs) = true by
      rw [beq_iff_eq]; unfold sealOf; rw [← sealOn_append, List.take_append_drop])
    have hc1 := Lib.hid (fun m => Of_any (xs.take k) A c (w5.drewN m) (((HR.out.below HW.out).take k).drewN m) (by unfold maxLen; simp; omega))
    have hc2 := Lib.hid (fun m => On_any (sealOf (xs.take k)) (xs.drop k) (cutA A c k) (c - k) (w5.drewN m) (((HR.out.below HW.out).cut hc k).drewN m) (by unfold maxLen; simp; omega))
    have hc3 := Lib.hid (fun m => Of_any xs A c (w5.drewN m) ((HR.out.below HW.out).drewN m) (by unfold maxLen; omega))
    clear hi hi1
    rw [List.length_take, Nat.min_eq_left hk] at hc1
    rw [List.length_drop] at hc2
    go_wp2
    go_show
    go_quiet (first | (go_at_call 15; exact quiet_same (hc1.out _)) | (go_at_call 17; exact quiet_same (hc2.out _)) | (go_at_call 15; exact quiet_same (hc3.out _)))
    go_wp2
    go_ret
    exact ⟨ret_bool hfin.out, HW.out.trans ((Drawn.some_ _ _).below _)⟩
end Go.Proofs.Ytfcfegnfcgglaaa
