/- The walk of the statement SealFits. -/
import Derived.Test.YtfcfegnfcgglaaaSealLaws1
import Derived.Test.YtfcfegnfcgglaaaSealPlain2
import Derived.Test.YtfcfegnfcgglaaaMem
namespace Go.Proofs.Ytfcfegnfcgglaaa
open Go.RowKit
set_option linter.unusedVariables false

theorem SealFits_main (xs : List (BitVec 64)) (A : Option Addr) (c : Nat) (k : Nat) (v : BitVec 64) (w : World) (hr : RdU w A xs) (hc : xs.length ≤ c) (_hm : c ≤ maxLen)
    (a2 : ¬ 60 < xs.length) (hk : k ≤ xs.length) :
    Calls Try.prog 7 #[.slice A xs.length c, .int .i64 (k : Int), U v] w fun e w' => e = .returned (.bool true) ∧ Below w.heap.size w w' := by
  unfold maxLen at _hm
  have HR := Lib.hid hr
  clear hr
  go_enter Try.func7, Try.ntmps7
  go_wp2_with fail
  refine (sealAwake_any _).mono ?_
  rintro e w1 ⟨rfl, hw⟩
  have HW := Lib.hid hw
  have hz := hw.size
  clear hw
  go_wp2_with (first | go_skip | (at_builtin; refine stop_ ?_))
  have ho1 := OwnU.lit w1 w.heap.size [] hz (by decide)
  have hb1 : Below w.heap.size w (w1.alloc (.cells #[] 23)) := HW.out.alloc hz _
  refine appU (.tmp 23) (.tmp 24) rfl rfl w.heap.size (some ⟨w1.heap.size, 0, none⟩) [] 0 0 rfl rfl ho1 A xs _ c rfl rfl (HR.out.below hb1) (by simp; omega) (by simp; omega) ?_
  intro B1 ys1 d1 v1 hys1 hown1 hg1 hB1
  obtain rfl : xs = ys1 := by simpa using hys1.symm
  have HW := Lib.hid (below_app hb1 ho1 hg1 (by simp; omega) (Nat.le_refl _))
  clear hys1 hg1 hB1 hb1 ho1
  unfold Stop
  go_wp2_with fail
  refine (Of_any xs A c _ (HR.out.below HW.out) (by unfold maxLen; omega)).mono ?_
  rintro e w4 ⟨rfl, rfl⟩
  go_wp2_with (first | go_skip | (at_builtin; refine stop_ ?_))
  have hz2 := HW.out.size
  have hb2 := HW.out.alloc hz2 (.cells #[U (sealOf xs)] 23)
  have ho2 := hown1.below (w' := v1.alloc (.cells #[U (sealOf xs)] 23)) ((Below.refl _ _).alloc (Nat.le_refl _) _)
  refine appU (.tmp 25) (.tmp 28) rfl rfl w.heap.size B1 xs _ d1 rfl rfl ho2 (some ⟨v1.heap.size, 0, none⟩) [sealOf xs] 1 1 rfl rfl (RdU.new1 _ _ _) (by simp; omega) (by simp; omega) ?_
  intro S ss cs w2 hss hown hg hB
  have HW := Lib.hid (below_app hb2 ho2 hg (by simp; omega) (Nat.le_refl _))
  have HS := Lib.hid hss
  have hsl : ss.length ≤ 61 := by rw [hss]; simp; omega
  clear hss hB hb2 hg hown1 ho2 hz2
  unfold Stop
  go_wp2_with fail
  have hf := Fits_any ss S cs w2 hown.rd (by unfold maxLen; omega) hown.cap.1
  rw [show sealFits ss = true by rw [HS.out, sealFits_snoc]; simp] at hf
  refine hf.mono ?_
  rintro e w3 ⟨rfl, hd⟩
  have HW := Lib.hid (HW.out.trans (hd.below _))
  have hown := hown.below (hd.below _)
  clear hd hf
  go_wp2_with (first | go_skip | (at_builtin; refine stop_ ?_))
  have ho3 := OwnU.lit w3 w3.heap.size [] (Nat.le_refl _) (by decide)
  have hb3 : Below w3.heap.size w3 (w3.alloc (.cells #[] 23)) := (Below.refl _ _).alloc (Nat.le_refl _) _
  refine appU (.tmp 34) (.tmp 35) rfl rfl w3.heap.size (some ⟨w3.heap.size, 0, none⟩) [] 0 0 rfl rfl ho3 S ss _ cs rfl rfl ((hown.rd).below hb3) (by simp; omega) (by simp) ?_
  intro B3 ys3 d3 v3 hys3 hown3 hg3 hB3
  obtain rfl : ss = ys3 := by simpa using hys3.symm
  have HT3 := Lib.hid (below_app hb3 ho3 hg3 (by simp) (Nat.le_refl _))
  clear hys3 hg3 hB3 hb3 ho3
  unfold Stop
  go_wp2_with (first | go_skip | (at_builtin; refine stop_ ?_))
  have hz3 := HT3.out.size
  have hb3 := HT3.out.alloc hz3 (.cells #[U (v)] 23)
  have hc3 : Below v3.heap.size v3 (v3.alloc (.cells #[U (v)] 23)) := (Below.refl _ _).alloc (Nat.le_refl _) _
  have ho3 := hown3.below hc3
  refine appU (.tmp 36) (.tmp 38) rfl rfl w3.heap.size B3 ss _ d3 rfl rfl ho3 (some ⟨v3.heap.size, 0, none⟩) [v] 1 1 rfl rfl (RdU.new1 _ _ _) (by simp; omega) (by simp; omega) ?_
  intro C3 zs3 e3 u3 hzs3 own3 hg3 hB3
  have HT3 := Lib.hid (below_app hb3 ho3 hg3 (by simp; omega) (Nat.le_refl _))
  have HZ3 := Lib.hid hzs3
  have hl3 : zs3.length ≤ 101 := by rw [hzs3]; simp; omega
  clear hzs3 hB3 hb3 hc3 hg3 hown3 ho3 hz3
  unfold Stop
  go_wp2_with fail
  have hf := Fits_any zs3 C3 e3 u3 own3.rd (by unfold maxLen; omega) own3.cap.1
  rw [show sealFits zs3 = (v == sealOf ss) by rw [HZ3.out, sealFits_snoc]] at hf
  refine hf.mono ?_
  rintro e w4 ⟨rfl, hd⟩
  have hb3 := HT3.out.trans (hd.below _)
  have HW := Lib.hid (HW.out.trans (hb3.mono HW.out.size))
  have hown := hown.below hb3
  clear hd hf own3 hb3
  go_wp2_with fail
  refine (Of_any ss S cs _ hown.rd (by unfold maxLen; omega)).mono ?_
  rintro e w5 ⟨rfl, rfl⟩
  have HE : (!((v == sealOf ss) == (sealOf ss == v))) = false := by
    rw [show (sealOf ss == v) = (v == sealOf ss) from BEq.comm]; simp
  clear hown
  go_wp2_with fail
  clear HE
  rcases Nat.eq_zero_or_pos k with rfl | hpos
  · go_quiet (fail)
    go_wp2
    go_ret
    exact ⟨rfl, HW.out.trans ((Drawn.some_ _ _).below _)⟩
  · obtain ⟨j, rfl⟩ : ∃ j, k = j + 1 := ⟨k - 1, by omega⟩
    have hj : j < xs.length := by omega
    obtain ⟨b, off, rfl, hcell⟩ := (HR.out.below HW.out).at_ hj
    have hcj := hcell j hj
    have HR2 := Lib.hid (HR.out.below HW.out)
    have hf := Lib.hid (fun m => Fits_any (xs.take (j + 1)) (some ⟨b, off, none⟩) c (w4.drewN m) ((HR2.out.take (j + 1)).drewN m) (by unfold maxLen; simp; omega) (by simp; omega))
    have ho := Lib.hid (fun m => Of_any (xs.take j) (some ⟨b, off, none⟩) c (w4.drewN m) ((HR2.out.take j).drewN m) (by unfold maxLen; simp; omega))
    rw [List.length_take, Nat.min_eq_left (by omega)] at hf ho
    have HF := Lib.hid (show (sealFits (xs.take (j + 1)) == (sealOf (xs.take j) == xs[j])) = true by rw [sealFits_take xs j hj]; simp)
    have hne : ((j : Int) + 1 == 0) = false := by rw [beq_eq_false_iff_ne]; omega
    clear hcell
    go_quiet (first | (go_at_call 19; exact quiet_drawn (hf.out _)) | (go_at_call 15; exact quiet_same (ho.out _)))
    go_wp2
    go_ret
    exact ⟨ret_bool HF.out, HW.out.trans ((Drawn.some_ _ _).below _)⟩

theorem SealFits_walk (xs : List (BitVec 64)) (A : Option Addr) (c : Nat) (cut : Int) (v : BitVec 64) (w : World) (hr : RdU w A xs) (hc : xs.length ≤ c) (_hm : c ≤ maxLen)
    (hat : -9223372036854775808 ≤ cut) (hat2 : cut ≤ 9223372036854775807) :
    Calls Try.prog 7 #[.slice A xs.length c, .int .i64 cut, U v] w fun e w' => e = .returned (.bool true) ∧ Below w.heap.size w w' := by
  by_cases hdom : 0 ≤ cut ∧ cut ≤ xs.length ∧ ¬ 60 < xs.length
  · obtain ⟨h1, h2, h3⟩ := hdom
    obtain ⟨k, rfl⟩ := Int.eq_ofNat_of_zero_le h1
    exact SealFits_main xs A c k v w hr hc _hm h3 (by omega)
  have HD := Lib.hid hdom
  clear hdom
  unfold maxLen at _hm
  go_enter Try.func7, Try.ntmps7
  go_wp2_with fail
  refine (sealAwake_any _).mono ?_
  rintro e w1 ⟨rfl, hw⟩
  have HW := Lib.hid hw
  clear hw
  by_cases a2 : 60 < xs.length
  · go_wp2_with fail
    go_ret
    exact ⟨rfl, HW.out⟩
  by_cases a3 : cut < 0
  · go_wp2_with fail
    go_ret
    exact ⟨rfl, HW.out⟩
  by_cases a4 : (xs.length : Int) < cut
  · go_wp2_with fail
    go_ret
    exact ⟨rfl, HW.out⟩
  exact absurd ⟨by omega, by omega, a2⟩ HD.out
end Go.Proofs.Ytfcfegnfcgglaaa
