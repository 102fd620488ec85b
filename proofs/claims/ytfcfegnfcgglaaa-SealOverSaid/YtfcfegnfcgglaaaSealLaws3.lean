/- The walks of the statements SealOver and SealTwo. -/
import Derived.Test.YtfcfegnfcgglaaaSealLaws1
import Derived.Test.YtfcfegnfcgglaaaSealPlain2
import Derived.Test.YtfcfegnfcgglaaaMem
import Derived.StillTailTactics
namespace Go.Proofs.Ytfcfegnfcgglaaa
open Go.RowKit
set_option linter.unusedVariables false

theorem over_take (ds os : List (BitVec 64)) (k : Nat) (h1 : ds.length = os.length) (hk : k < os.length) (ht : ds.take k = os.take k) : (ds.set k os[k]).take (k + 1) = os.take (k + 1) := by
  rw [take_snoc _ k (by simp; omega), take_snoc os k hk, List.take_set_of_le (Nat.le_refl k), ht]
  simp
theorem SealOver_main (xs ys zs : List (BitVec 64)) (A B C : Option Addr) (ca cb cc : Nat) (w : World) (hra : RdU w A xs) (hrb : RdU w B ys) (hrc : RdU w C zs)
    (a1 : xs.length ≤ 60) (hbs : xs.length = ys.length) (hcs : xs.length = zs.length) :
    Calls Try.prog 5 #[.slice A xs.length ca, .slice B xs.length cb, .slice C xs.length cc] w fun e w' => e = .returned (.bool true) ∧ Below w.heap.size w w' := by
  have HRA := Lib.hid hra
  have HRB := Lib.hid hrb
  have HRC := Lib.hid hrc
  have HBS := Lib.hid hbs
  have HCS := Lib.hid hcs
  have hmk := make_U xs.length (by omega)
  clear hra hrb hrc hbs hcs
  have hnn : ((xs.length : Int) != (xs.length : Int)) = false := by simp
  go_enter Try.func5, Try.ntmps5
  go_wp2_with fail
  refine (sealAwake_any _).mono ?_
  rintro e w1 ⟨rfl, hw⟩
  have HW := Lib.hid hw
  have hz := hw.size
  clear hw
  go_wp2_with fail
  have HO := Lib.hid (OwnU.rep w1 w.heap.size xs.length hz (by simp [maxLen]; omega))
  have HW := Lib.hid (HW.out.alloc hz (.cells (Array.replicate xs.length (U 0#64)) 23))
  clear hmk
  generalize w1.alloc (.cells (Array.replicate xs.length (U 0#64)) 23) = w2 at *
  generalize hg : w1.heap.size = g at *
  have hgb : w.heap.size ≤ g := hz
  clear hg hz
  generalize hos : over3 xs ys zs = os
  have HOS := Lib.hid hos
  have hol : os.length = xs.length := by rw [← hos]; exact over3_length xs ys zs HBS.out HCS.out
  have HOL := Lib.hid hol
  clear hos hol
  go_loopw [8] (fun i wr => ∃ (k : Nat) (ds : List (BitVec 64)), k ≤ xs.length ∧ i = .int .i64 k ∧ ds.length = xs.length ∧ ds.take k = os.take k ∧ OwnU wr w.heap.size (some ⟨g, 0, none⟩) ds xs.length ∧ Below w.heap.size w wr) (fun i _ => xs.length - (intOf i).toNat)
  case atStart => exact ⟨0, List.replicate xs.length 0#64, Nat.zero_le _, rfl, by simp, by simp, HO.out, HW.out⟩
  case round =>
    clear HW HO
    obtain ⟨k, ds, hk, rfl, hdl, hdt, hown, hb⟩ := hrel
    have HDL := Lib.hid hdl
    have HDT := Lib.hid hdt
    have HB := Lib.hid hb
    have HO := Lib.hid hown
    clear hdl hdt hb hown
    by_cases hlt : k < xs.length
    · obtain ⟨ba, oa, rfl, hca⟩ := (HRA.out.below HB.out).at_ hlt
      obtain ⟨bb, ob, rfl, hcb⟩ := (HRB.out.below HB.out).at_ (show k < ys.length by rw [← HBS.out]; exact hlt)
      obtain ⟨bc, oc, rfl, hcc⟩ := (HRC.out.below HB.out).at_ (show k < zs.length by rw [← HCS.out]; exact hlt)
      have h1 := hca k hlt
      have h2 := hcb k (by rw [← HBS.out]; exact hlt)
      have h3 := hcc k (by rw [← HCS.out]; exact hlt)
      have h4 := HO.out.cellAt k (by rw [HDL.out]; exact hlt)
      have h5 := HO.out.frozenAt k
      clear hca hcb hcc
      go_wp2
      go_still_tail 17, (by kernel_rfl)
      change wpList _ _ _ _ _ wr.drew
      have HE := Lib.hid (show xs[k] ^^^ ys[k]'(by rw [← HBS.out]; exact hlt) ^^^ zs[k]'(by rw [← HCS.out]; exact hlt) = os[k]'(by rw [HOL.out]; exact hlt) by
        have := HOS.out; subst this; exact (over3_get xs ys zs k _ _ _ _).symm)
      have hO2 := Lib.hid ((show OwnU wr.drew w.heap.size (some ⟨g, 0, none⟩) ds xs.length from HO.out).stored k (xs[k] ^^^ ys[k]'(by rw [← HBS.out]; exact hlt) ^^^ zs[k]'(by rw [← HCS.out]; exact hlt)))
      have hB2 := Lib.hid (HB.out.drew.setCell (p := ⟨g, k, none⟩) hgb (U (xs[k] ^^^ ys[k]'(by rw [← HBS.out]; exact hlt) ^^^ zs[k]'(by rw [← HCS.out]; exact hlt))))
      have hdt := Lib.hid (show (ds.set k (os[k]'(by rw [HOL.out]; exact hlt))).take (k + 1) = os.take (k + 1) from over_take ds os k (by rw [HDL.out, HOL.out]) _ HDT.out)
      go_wp2
      go_roundw
      case rel =>
        refine ⟨k + 1, ds.set k (xs[k] ^^^ ys[k]'(by rw [← HBS.out]; exact hlt) ^^^ zs[k]'(by rw [← HCS.out]; exact hlt)), by omega, by go_num, by rw [List.length_set]; exact HDL.out, ?_, hO2.out, hB2.out⟩
        rw [HE.out]; exact hdt.out
      case measure => simp [intOf]; omega
    · go_wp2_with fail
      have hkk : k = xs.length := by omega
      have hdo : ds = os := by
        have h := HDT.out
        rw [List.take_of_length_le (by rw [HDL.out]; omega), List.take_of_length_le (by rw [HOL.out]; omega)] at h
        exact h
      subst hdo
      have hof := Of_any ds (some ⟨g, 0, none⟩) xs.length wr HO.out.rd (by rw [HDL.out]; unfold maxLen; omega)
      rw [HDL.out] at hof
      refine hof.mono ?_
      rintro e w4 ⟨rfl, rfl⟩
      go_wp2_with fail
      refine (Of_any xs A ca _ (HRA.out.below HB.out) (by unfold maxLen; omega)).mono ?_
      rintro e w4 ⟨rfl, rfl⟩
      go_wp2_with fail
      have hof := Of_any ys B cb wr (HRB.out.below HB.out) (by rw [← HBS.out]; unfold maxLen; omega)
      rw [← HBS.out] at hof
      refine hof.mono ?_
      rintro e w4 ⟨rfl, rfl⟩
      go_wp2_with fail
      have hof := Of_any zs C cc wr (HRC.out.below HB.out) (by rw [← HCS.out]; unfold maxLen; omega)
      rw [← HCS.out] at hof
      refine hof.mono ?_
      rintro e w4 ⟨rfl, rfl⟩
      have HF := Lib.hid (show (sealOf ds == sealOf xs ^^^ sealOf ys ^^^ sealOf zs) = true by
        rw [beq_iff_eq, ← sealOf_over xs ys zs HBS.out HCS.out, HOS.out])
      go_wp2
      go_ret
      exact ⟨ret_bool HF.out, HB.out⟩

theorem SealOver_walk (xs : List (BitVec 64)) (A : Option Addr) (ca : Nat) (ys : List (BitVec 64)) (B : Option Addr) (cb : Nat) (zs : List (BitVec 64)) (C : Option Addr) (cc : Nat) (w : World)
    (hra : RdU w A xs) (hla : xs.length ≤ ca) (hma : ca ≤ maxLen) (hrb : RdU w B ys) (hlb : ys.length ≤ cb) (hmb : cb ≤ maxLen) (hrc : RdU w C zs) (hlc : zs.length ≤ cc) (hmc : cc ≤ maxLen) :
    Calls Try.prog 5 #[.slice A xs.length ca, .slice B ys.length cb, .slice C zs.length cc] w fun e w' => e = .returned (.bool true) ∧ Below w.heap.size w w' := by
  by_cases hdom : xs.length ≤ 60 ∧ xs.length = ys.length ∧ xs.length = zs.length
  · obtain ⟨h1, h2, h3⟩ := hdom
    have := SealOver_main xs ys zs A B C ca cb cc w hra hrb hrc h1 h2 h3
    rw [← h2, ← h3]
    exact this
  have HD := Lib.hid hdom
  clear hdom hra hrb hrc
  unfold maxLen at hma hmb hmc
  go_enter Try.func5, Try.ntmps5
  go_wp2_with fail
  refine (sealAwake_any _).mono ?_
  rintro e w1 ⟨rfl, hw⟩
  have HW := Lib.hid hw
  clear hw
  by_cases a1 : 60 < xs.length
  · go_wp2_with fail
    go_ret
    exact ⟨rfl, HW.out⟩
  by_cases a2 : xs.length = ys.length
  · have a3 : ((zs.length : Int) != (ys.length : Int)) = true := by
      rw [bne_iff_ne]; intro h; exact absurd ⟨by omega, a2, by omega⟩ HD.out
    have a4 : ((ys.length : Int) != (ys.length : Int)) = false := by simp
    go_wp2_with fail
    go_ret
    exact ⟨rfl, HW.out⟩
  · have a3 : ((ys.length : Int) != (xs.length : Int)) = true := by
      rw [bne_iff_ne]; omega
    clear a2
    go_wp2_with fail
    go_ret
    exact ⟨rfl, HW.out⟩

theorem SealTwo_walk (a b : BitVec 64) (xs : List (BitVec 64)) (A : Option Addr) (c : Nat) (w : World) (hr : RdU w A xs) (hl : xs.length ≤ c) (hm : c ≤ maxLen) :
    Calls Try.prog 6 #[U a, U b, .slice A xs.length c] w fun e w' => e = .returned (.bool true) ∧ Below w.heap.size w w' := by
  have HR := Lib.hid hr
  clear hr
  unfold maxLen at hm
  have HT := Lib.hid (show ((sealOf (a :: b :: xs) == sealOf (b :: a :: xs)) == (a ^^^ b == (a ^^^ b) <<< 9 ||| (a ^^^ b) >>> 55)) = true by
    rw [rotl9_form, sealOf_swap]; exact beq_self_eq_true _)
  go_enter Try.func6, Try.ntmps6
  go_wp2_with fail
  refine (sealAwake_any _).mono ?_
  rintro e w1 ⟨rfl, hw⟩
  have HW := Lib.hid hw
  clear hw
  by_cases a1 : 30 < xs.length
  · go_wp2_with fail
    go_ret
    exact ⟨rfl, HW.out⟩
  go_wp2_with (first | go_skip | (at_builtin; refine stop_ ?_))
  have ho1 := OwnU.lit w1 w1.heap.size [a, b] (Nat.le_refl _) (by simp [maxLen])
  have hb1 : Below w1.heap.size w1 (w1.alloc (.cells #[U a, U b] 23)) := (Below.refl _ _).alloc (Nat.le_refl _) _
  refine appU (.tmp 28) (.tmp 29) rfl rfl w1.heap.size (some ⟨w1.heap.size, 0, none⟩) [a, b] 2 2 rfl rfl ho1 A xs _ c rfl rfl ((HR.out.below HW.out).below hb1) (by simp; omega) (by simp) ?_
  intro B1 ys1 d1 v1 hys1 hown1 hg1 hB1
  have HT1 := Lib.hid (below_app hb1 ho1 hg1 (by simp) (Nat.le_refl _))
  have HZ1 := Lib.hid (show ys1 = a :: b :: xs from hys1)
  have hl1 : ys1.length ≤ 32 := by rw [hys1]; simp; omega
  clear hys1 hg1 hB1 hb1 ho1
  unfold Stop
  go_wp2_with fail
  refine (Of_any ys1 B1 d1 _ hown1.rd (by unfold maxLen; omega)).mono ?_
  rintro e w4 ⟨rfl, rfl⟩
  have HW := Lib.hid (HW.out.trans (HT1.out.mono HW.out.size))
  clear hown1
  go_wp2_with (first | go_skip | (at_builtin; refine stop_ ?_))
  have ho2 := OwnU.lit v1 v1.heap.size [b, a] (Nat.le_refl _) (by simp [maxLen])
  have hb2 : Below v1.heap.size v1 (v1.alloc (.cells #[U b, U a] 23)) := (Below.refl _ _).alloc (Nat.le_refl _) _
  refine appU (.tmp 34) (.tmp 35) rfl rfl v1.heap.size (some ⟨v1.heap.size, 0, none⟩) [b, a] 2 2 rfl rfl ho2 A xs _ c rfl rfl ((HR.out.below HW.out).below hb2) (by simp; omega) (by simp) ?_
  intro B2 ys2 d2 v2 hys2 hown2 hg2 hB2
  have HT2 := Lib.hid (below_app hb2 ho2 hg2 (by simp) (Nat.le_refl _))
  have HZ2 := Lib.hid (show ys2 = b :: a :: xs from hys2)
  have hl2 : ys2.length ≤ 32 := by rw [hys2]; simp; omega
  clear hys2 hg2 hB2 hb2 ho2
  unfold Stop
  go_wp2_with fail
  refine (Of_any ys2 B2 d2 _ hown2.rd (by unfold maxLen; omega)).mono ?_
  rintro e w4 ⟨rfl, rfl⟩
  have HW := Lib.hid (HW.out.trans (HT2.out.mono HW.out.size))
  clear hown2
  rw [HZ1.out, HZ2.out]
  go_wp2
  go_ret
  exact ⟨ret_bool HT.out, HW.out⟩
end Go.Proofs.Ytfcfegnfcgglaaa
