/- The walk of the statement SealOne. -/
import Derived.Test.YtfcfegnfcgglaaaSealLaws1
import Derived.Test.YtfcfegnfcgglaaaSealPlain2
import Derived.Test.YtfcfegnfcgglaaaMem
namespace Go.Proofs.Ytfcfegnfcgglaaa
open Go.RowKit

theorem SealOne_main (xs : List (BitVec 64)) (A : Option Addr) (c : Nat) (k : Nat) (v : BitVec 64) (w : World) (hr : RdU w A xs) (hc : xs.length ≤ c) (_hm : c ≤ maxLen)
    (a1 : ¬ xs.length < 1) (a2 : ¬ 100 < xs.length) (hk : k < xs.length) (a5 : v ≠ 0) :
    Calls Try.prog 4 #[.slice A xs.length c, .int .i64 (k : Int), U v] w fun e w' => e = .returned (.bool true) ∧ Below w.heap.size w w' := by
  unfold maxLen at _hm
  have HR := Lib.hid hr
  clear hr
  go_enter Try.func4, Try.ntmps4
  go_wp2_with fail
  refine (sealAwake_any _).mono ?_
  rintro e w1 ⟨rfl, hw⟩
  have HW := Lib.hid hw
  have hz := hw.size
  clear hw
  have a6 : (v == 0#64) = false := by simpa using a5
  have A5 := Lib.hid a5
  clear a5
  go_wp2_with (first | go_skip | (at_builtin; refine stop_ ?_))
  -- m := append([]uint64{}, l...)
  have hb1 : Below w.heap.size w (w1.alloc (.cells #[] 23)) := HW.out.alloc hz _
  have ho1 := OwnU.lit w1 w.heap.size [] hz (by decide)
  refine appU (.tmp 33) (.tmp 34) rfl rfl w.heap.size (some ⟨w1.heap.size, 0, none⟩) [] 0 0 rfl rfl ho1 A xs xs.length c rfl rfl
    ((HR.out.below HW.out).below ((Below.refl _ _).alloc (Nat.le_refl _) _)) (by simp; omega) (by simp; omega) ?_
  intro A2 zs c2 w2 hzs hown hg hA2
  obtain rfl : zs = xs := by simpa using hzs
  have HW := Lib.hid (below_app hb1 ho1 hg (by simp; omega) (Nat.le_refl _))
  have hz2 : w.heap.size ≤ w2.heap.size := HW.out.size
  clear hzs hg hA2 hb1 ho1
  obtain ⟨g, rfl, hgb, hgl⟩ := hown.form (by omega)
  have hcell := hown.cellAt k hk
  have hfz := hown.frozenAt k
  have hst := Lib.hid (hown.stored k (zs[k] ^^^ v))
  have HW := Lib.hid (HW.out.setCell (p := ⟨g, k, none⟩) hgb (U (zs[k] ^^^ v)))
  clear hown
  unfold Stop
  go_wp2_with fail
  -- s := seal.Of(l...)
  generalize w2.setCell ⟨g, k, none⟩ (U (zs[k] ^^^ v)) = w3 at *
  have hml : (zs.set k (zs[k] ^^^ v)).length = zs.length := by simp
  have HX := Lib.hid (show (sealOf (zs.set k (zs[k] ^^^ v)) != sealOf zs) = true by
    rw [bne_iff_ne]; exact fun h => xor_ne_self _ _ A5.out ((sealOf_set zs k hk _).1 h))
  generalize zs.set k (zs[k] ^^^ v) = ms at *
  have hk1 := HW.out.size
  refine (Of_any zs A c _ (HR.out.below HW.out) (by unfold maxLen; omega)).mono ?_
  rintro e w4 ⟨rfl, rfl⟩
  go_wp2_with fail
  have hof := Of_any ms (some ⟨g, 0, none⟩) c2 w3 hst.out.rd (by unfold maxLen; omega)
  rw [hml] at hof
  refine hof.mono ?_
  rintro e w4 ⟨rfl, rfl⟩
  have HX2 := HX.out
  clear hof hcell hfz
  -- append(append([]uint64{}, l...), s)
  go_wp2_with (first | go_skip | (at_builtin; refine stop_ ?_))
  have ho1 := OwnU.lit w3 w3.heap.size [] (Nat.le_refl _) (by decide)
  have hb1 : Below w3.heap.size w3 (w3.alloc (.cells #[] 23)) := (Below.refl _ _).alloc (Nat.le_refl _) _
  refine appU (.tmp 52) (.tmp 53) rfl rfl w3.heap.size (some ⟨w3.heap.size, 0, none⟩) [] 0 0 rfl rfl ho1 A zs _ c rfl rfl ((HR.out.below HW.out).below hb1) (by simp; omega) (by simp) ?_
  intro B1 ys1 d1 v1 hys1 hown1 hg1 hB1
  obtain rfl : zs = ys1 := by simpa using hys1.symm
  have HT1 := Lib.hid (below_app hb1 ho1 hg1 (by simp) (Nat.le_refl _))
  clear hys1 hg1 hB1 hb1 ho1
  unfold Stop
  go_wp2_with (first | go_skip | (at_builtin; refine stop_ ?_))
  have hz1 := HT1.out.size
  have hb1 := HT1.out.alloc hz1 (.cells #[U (sealOf zs)] 23)
  have hc1 : Below v1.heap.size v1 (v1.alloc (.cells #[U (sealOf zs)] 23)) := (Below.refl _ _).alloc (Nat.le_refl _) _
  have ho1 := hown1.below hc1
  refine appU (.tmp 54) (.tmp 56) rfl rfl w3.heap.size B1 zs _ d1 rfl rfl ho1 (some ⟨v1.heap.size, 0, none⟩) [sealOf zs] 1 1 rfl rfl (RdU.new1 _ _ _) (by simp; omega) (by simp; omega) ?_
  intro C1 zs1 e1 u1 hzs1 own1 hg1 hB1
  have HT1 := Lib.hid (below_app hb1 ho1 hg1 (by simp; omega) (Nat.le_refl _))
  have HZ1 := Lib.hid hzs1
  have hl1 : zs1.length ≤ 101 := by rw [hzs1]; simp; omega
  clear hzs1 hB1 hb1 hc1 hg1 hown1 ho1 hz1
  unfold Stop
  go_wp2_with fail
  have hf1 := Fits_any zs1 C1 e1 u1 own1.rd (by unfold maxLen; omega) own1.cap.1
  rw [show sealFits zs1 = true by rw [HZ1.out, sealFits_snoc]; simp] at hf1
  refine hf1.mono ?_
  rintro e w5 ⟨rfl, hd⟩
  have hb1 := HT1.out.trans (hd.below _)
  have HW := Lib.hid (HW.out.trans (hb1.mono HW.out.size))
  have hst := Lib.hid (hst.out.below hb1)
  clear hb1 hd own1 hf1 hl1
  go_wp2_with (first | go_skip | (at_builtin; refine stop_ ?_))
  have ho2 := OwnU.lit w5 w5.heap.size [] (Nat.le_refl _) (by decide)
  have hb2 : Below w5.heap.size w5 (w5.alloc (.cells #[] 23)) := (Below.refl _ _).alloc (Nat.le_refl _) _
  refine appU (.tmp 61) (.tmp 62) rfl rfl w5.heap.size (some ⟨w5.heap.size, 0, none⟩) [] 0 0 rfl rfl ho2 (some ⟨g, 0, none⟩) ms _ c2 rfl hml.symm ((hst.out.rd).below hb2) (by simp; omega) (by simp) ?_
  intro B2 ys2 d2 v2 hys2 hown2 hg2 hB2
  obtain rfl : ms = ys2 := by simpa using hys2.symm
  have HT2 := Lib.hid (below_app hb2 ho2 hg2 (by simp) (Nat.le_refl _))
  clear hys2 hg2 hB2 hb2 ho2
  unfold Stop
  go_wp2_with (first | go_skip | (at_builtin; refine stop_ ?_))
  have hz2 := HT2.out.size
  have hb2 := HT2.out.alloc hz2 (.cells #[U (sealOf zs)] 23)
  have hc2 : Below v2.heap.size v2 (v2.alloc (.cells #[U (sealOf zs)] 23)) := (Below.refl _ _).alloc (Nat.le_refl _) _
  have ho2 := hown2.below hc2
  refine appU (.tmp 63) (.tmp 65) rfl rfl w5.heap.size B2 ms _ d2 rfl hml.symm ho2 (some ⟨v2.heap.size, 0, none⟩) [sealOf zs] 1 1 rfl rfl (RdU.new1 _ _ _) (by simp; omega) (by simp; omega) ?_
  intro C2 zs2 e2 u2 hzs2 own2 hg2 hB2
  have HT2 := Lib.hid (below_app hb2 ho2 hg2 (by simp; omega) (Nat.le_refl _))
  have HZ2 := Lib.hid hzs2
  have hl2 : zs2.length ≤ 101 := by rw [hzs2]; simp; omega
  clear hzs2 hB2 hb2 hc2 hg2 hown2 ho2 hz2
  unfold Stop
  go_wp2_with fail
  have hf2 := Fits_any zs2 C2 e2 u2 own2.rd (by unfold maxLen; omega) own2.cap.1
  rw [show sealFits zs2 = false by rw [HZ2.out, sealFits_snoc]; have := HX.out; rw [bne_iff_ne] at this; rw [beq_eq_false_iff_ne]; exact fun h => this h.symm] at hf2
  refine hf2.mono ?_
  rintro e w6 ⟨rfl, hd⟩
  have hb2 := HT2.out.trans (hd.below _)
  have HW := Lib.hid (HW.out.trans (hb2.mono HW.out.size))
  have hst := Lib.hid (hst.out.below hb2)
  clear hb2 hd own2 hf2 hl2
  go_wp2_with (first | go_skip | (at_builtin; refine stop_ ?_))
  have ho3 := OwnU.lit w6 w6.heap.size [] (Nat.le_refl _) (by decide)
  have hb3 : Below w6.heap.size w6 (w6.alloc (.cells #[] 23)) := (Below.refl _ _).alloc (Nat.le_refl _) _
  refine appU (.tmp 71) (.tmp 72) rfl rfl w6.heap.size (some ⟨w6.heap.size, 0, none⟩) [] 0 0 rfl rfl ho3 A zs _ c rfl rfl ((HR.out.below HW.out).below hb3) (by simp; omega) (by simp) ?_
  intro B3 ys3 d3 v3 hys3 hown3 hg3 hB3
  obtain rfl : zs = ys3 := by simpa using hys3.symm
  have HT3 := Lib.hid (below_app hb3 ho3 hg3 (by simp) (Nat.le_refl _))
  clear hys3 hg3 hB3 hb3 ho3
  unfold Stop
  go_wp2_with (first | go_skip | (at_builtin; refine stop_ ?_))
  have hz3 := HT3.out.size
  have hb3 := HT3.out.alloc hz3 (.cells #[U (sealOf zs ^^^ v)] 23)
  have hc3 : Below v3.heap.size v3 (v3.alloc (.cells #[U (sealOf zs ^^^ v)] 23)) := (Below.refl _ _).alloc (Nat.le_refl _) _
  have ho3 := hown3.below hc3
  refine appU (.tmp 73) (.tmp 77) rfl rfl w6.heap.size B3 zs _ d3 rfl rfl ho3 (some ⟨v3.heap.size, 0, none⟩) [sealOf zs ^^^ v] 1 1 rfl rfl (RdU.new1 _ _ _) (by simp; omega) (by simp; omega) ?_
  intro C3 zs3 e3 u3 hzs3 own3 hg3 hB3
  have HT3 := Lib.hid (below_app hb3 ho3 hg3 (by simp; omega) (Nat.le_refl _))
  have HZ3 := Lib.hid hzs3
  have hl3 : zs3.length ≤ 101 := by rw [hzs3]; simp; omega
  clear hzs3 hB3 hb3 hc3 hg3 hown3 ho3 hz3
  unfold Stop
  go_wp2_with fail
  have hf3 := Fits_any zs3 C3 e3 u3 own3.rd (by unfold maxLen; omega) own3.cap.1
  rw [show sealFits zs3 = false by rw [HZ3.out, sealFits_snoc]; rw [beq_eq_false_iff_ne]; exact xor_ne_self _ _ A5.out] at hf3
  refine hf3.mono ?_
  rintro e w7 ⟨rfl, hd⟩
  have hb3 := HT3.out.trans (hd.below _)
  have HW := Lib.hid (HW.out.trans (hb3.mono HW.out.size))
  clear hb3 hd own3 hf3 hl3
  go_wp2
  go_ret
  exact ⟨rfl, HW.out⟩

theorem SealOne_walk (xs : List (BitVec 64)) (A : Option Addr) (c : Nat) (at_ : Int) (v : BitVec 64) (w : World) (hr : RdU w A xs) (hc : xs.length ≤ c) (_hm : c ≤ maxLen)
    (hat : -9223372036854775808 ≤ at_) (hat2 : at_ ≤ 9223372036854775807) :
    Calls Try.prog 4 #[.slice A xs.length c, .int .i64 at_, U v] w fun e w' => e = .returned (.bool true) ∧ Below w.heap.size w w' := by
  by_cases hdom : 0 ≤ at_ ∧ at_ < xs.length ∧ ¬ 100 < xs.length ∧ v ≠ 0
  · obtain ⟨h1, h2, h3, h4⟩ := hdom
    obtain ⟨k, rfl⟩ := Int.eq_ofNat_of_zero_le h1
    exact SealOne_main xs A c k v w hr hc _hm (by omega) h3 (by omega) h4
  have HD := Lib.hid hdom
  clear hdom
  unfold maxLen at _hm
  go_enter Try.func4, Try.ntmps4
  go_wp2_with fail
  refine (sealAwake_any _).mono ?_
  rintro e w1 ⟨rfl, hw⟩
  have HW := Lib.hid hw
  have hz := hw.size
  clear hw
  by_cases a1 : xs.length < 1
  · go_wp2_with fail
    go_ret
    exact ⟨rfl, HW.out⟩
  by_cases a2 : 100 < xs.length
  · go_wp2_with fail
    go_ret
    exact ⟨rfl, HW.out⟩
  by_cases a3 : at_ < 0
  · go_wp2_with fail
    go_ret
    exact ⟨rfl, HW.out⟩
  by_cases a4 : (xs.length : Int) ≤ at_
  · go_wp2_with fail
    go_ret
    exact ⟨rfl, HW.out⟩
  by_cases a5 : v = 0
  · subst a5
    go_wp2_with fail
    go_ret
    exact ⟨rfl, HW.out⟩
  exact absurd ⟨by omega, by omega, a2, a5⟩ HD.out
end Go.Proofs.Ytfcfegnfcgglaaa
