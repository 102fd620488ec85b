/- The walks of the statements BitsSays and BitsRows. Condition: the slices can be read. -/
import Derived.Test.YtdadplpibdjjbaaBits6
import Derived.Test.YtdadplpibdjjbaaBitsLaw1
import Derived.Test.YtdadplpibdjjbaaFrame2
namespace Go.Proofs.Ytdadplpibdjjbaa
open Go.RowKit
set_option linter.unusedVariables false
set_option linter.unusedSimpArgs false
theorem optV_form (o : Option Nat) : ∃ (v : Int) (b : Bool), optV o = .tuple #[.int .i64 v, .bool b] := by
  cases o with
  | none => exact ⟨0, false, rfl⟩
  | some i => exact ⟨i, true, rfl⟩
theorem field_bits (n d : Nat) (B : Option Addr) (W : World) : (Instr.field 53 (.agg #[.slice B n d]) 0).run Try.prog W = .ok (.slice B n d) W := by
  simp [Instr.field, Sem.run_bind, asAgg]
  go_simp
set_option maxRecDepth 100000 in
set_option maxHeartbeats 4000000 in
theorem BitsSays_walk (xs : List (BitVec 64)) (A : Option Addr) (c : Nat) (yes : Bool) (l : List Int) (L : Option Addr) (lc : Nat) (i e z : Int) (w : World) (hr : RdU w A xs) (hc : xs.length ≤ c) (hm : c ≤ maxLen)
    (hl : RdF I64 w L l ∧ ∀ x ∈ l, -9223372036854775808 ≤ x ∧ x ≤ 9223372036854775807) (hlc : l.length ≤ lc) (hlm : lc ≤ maxLen)
    (hi : -9223372036854775808 ≤ i) (hi2 : i ≤ 9223372036854775807) (he : -9223372036854775808 ≤ e) (he2 : e ≤ 9223372036854775807) (hz : -9223372036854775808 ≤ z) (hz2 : z ≤ 9223372036854775807) :
    Calls Try.prog 14 #[.slice A xs.length c, .bool yes, .slice L l.length lc, .int .i64 i, .int .i64 e, .int .i64 z] w fun r w' => r = .returned (.bool true) ∧ Below w.heap.size w w' := by
  have HR := Lib.hid hr
  have HL := Lib.hid (show RdF (Value.int .i64) w L l from hl.1)
  have HLB := Lib.hid hl.2
  clear hr hl
  unfold maxLen at hm hlm
  by_cases h8 : 8 < xs.length
  · go_enter Try.func14, Try.ntmps14
    go_wp2_with fail
    refine (bitsAwake_any _).mono ?_
    rintro e0 w1 ⟨rfl, hb⟩
    have HW := Lib.hid hb
    clear hb
    go_wp2
    go_ret
    exact ⟨rfl, HW.out⟩
  by_cases h30 : 30 < l.length
  · go_enter Try.func14, Try.ntmps14
    go_wp2_with fail
    refine (bitsAwake_any _).mono ?_
    rintro e0 w1 ⟨rfl, hb⟩
    have HW := Lib.hid hb
    clear hb
    go_wp2
    go_ret
    exact ⟨rfl, HW.out⟩
  have hn : xs.length ≤ 1000 := by omega
  have hll : l.length ≤ 1000 := by omega
  have N1 := Lib.hid (fun W h => Next_any xs c A yes i e W h hn hi hi2 he he2)
  have N2 := Lib.hid (fun W h => refNext_any xs c A yes i e W h hn hi hi2 he he2)
  have F1 := Lib.hid (fun W h => Free_any xs c A i e z W h hn hi hi2 he he2 hz hz2)
  have F2 := Lib.hid (fun W h => refFree_any xs c A i e z W h hn hi hi2 he he2 hz hz2)
  have S1 := Lib.hid (fun W h h2 => Set_any xs c A yes l L lc W h hn h2 hll HLB.out)
  have S2 := Lib.hid (fun W h h2 => refSet_any xs c A yes l L lc W h hn h2 hll HLB.out)
  have C1 := Lib.hid (fun W h => Count_any xs c A W h hn)
  have C2 := Lib.hid (fun W h => refCount_any xs c A W h hn)
  have B1 := Lib.hid (fun W h => Has_any xs c A i W h hn hi hi2)
  have B2 := Lib.hid (fun W h => HasBit_any xs c A i W h hn hi hi2)
  have SM := Lib.hid (fun (B B' : Option Addr) (d d' : Nat) (W : World) (h : RdU W B (setB yes xs l)) (h' : RdU W B' (setB yes xs l)) => show Calls Try.prog 58 #[.slice B xs.length d, .slice B' xs.length d'] W fun e w' => e = .returned (.bool true) ∧ Drawn W w' by
    have k := same1_any (setB yes xs l) (setB yes xs l) B B' d d' W h h' (by rw [setB_len]; unfold maxLen; omega) (by rw [setB_len]; unfold maxLen; omega)
    rw [setB_len, beq_self_eq_true] at k
    exact k)
  obtain ⟨v1, b1, hv1⟩ := optV_form (nextB xs yes i e)
  obtain ⟨v2, b2, hv2⟩ := optV_form (freeB xs i e z)
  rw [hv1] at N1 N2
  rw [hv2] at F1 F2
  generalize cntB xs (64 * xs.length) = cn at *
  generalize hasB xs i = hs at *
  clear hv1 hv2 hi hi2 he he2 hz hz2
  go_enter Try.func14, Try.ntmps14
  go_wp2_with fail
  refine (bitsAwake_any _).mono ?_
  rintro e0 w1 ⟨rfl, hb⟩
  have HW := Lib.hid hb
  clear hb
  go_wp2_with fail
  have HX := Lib.hid (HW.out.alloc HW.out.size (.cells #[.slice A xs.length c] 53))
  have HC := Lib.hid (fun (W : World) (h : Below (w1.alloc (.cells #[.slice A xs.length c] 53)).heap.size (w1.alloc (.cells #[.slice A xs.length c] 53)) W) => bits_cell h)
  have HB := Lib.hid (Below.refl (w1.alloc (.cells #[.slice A xs.length c] 53)).heap.size (w1.alloc (.cells #[.slice A xs.length c] 53)))
  generalize w1.alloc (.cells #[.slice A xs.length c] 53) = wx at *
  have HRX := Lib.hid (fun (W : World) (h : Below wx.heap.size wx W) => HR.out.below (HX.out.trans (h.mono HX.out.size)))
  have HLX := Lib.hid (fun (W : World) (h : Below wx.heap.size wx W) => HL.out.below (HX.out.trans (h.mono HX.out.size)))
  refine (N1.out _ (HRX.out _ HB.out)).mono ?_
  rintro e0 w2 ⟨rfl, hb⟩
  have HB := Lib.hid (HB.out.trans (hb.mono HB.out.size))
  clear hb
  have hc0 := HC.out _ HB.out
  go_wp2_with fail
  refine (N2.out _ (HRX.out _ HB.out)).mono ?_
  rintro e0 w3 ⟨rfl, rfl⟩
  go_wp2_with fail
  refine (F1.out _ (HRX.out _ HB.out)).mono ?_
  rintro e0 w3 ⟨rfl, hb⟩
  have HB := Lib.hid (HB.out.trans (hb.mono HB.out.size))
  clear hb hc0
  have hc0 := HC.out _ HB.out
  go_wp2_with fail
  refine (F2.out _ (HRX.out _ HB.out)).mono ?_
  rintro e0 w4 ⟨rfl, rfl⟩
  go_wp2_with fail
  refine (S1.out _ (HRX.out _ HB.out) (HLX.out _ HB.out)).mono ?_
  rintro e0 w4 ⟨⟨Bx, dx, rfl, ho⟩, hb⟩
  have HO1 := Lib.hid ho.rd
  have HB := Lib.hid (HB.out.trans (hb.mono HB.out.size))
  clear hb hc0 ho
  have hc0 := HC.out _ HB.out
  have hfd := fun (W : World) => field_bits xs.length dx Bx W
  go_wp2_with fail
  refine (S2.out _ (HRX.out _ HB.out) (HLX.out _ HB.out)).mono ?_
  rintro e0 w5 ⟨⟨By, dy, rfl, ho⟩, hb⟩
  have HO1 := Lib.hid (HO1.out.below hb)
  have HO2 := Lib.hid ho.rd
  have HB := Lib.hid (HB.out.trans (hb.mono HB.out.size))
  clear hb hc0 ho
  have hc0 := HC.out _ HB.out
  go_wp2_with fail
  refine (SM.out Bx By dx dy _ HO1.out HO2.out).mono ?_
  rintro e0 w6 ⟨rfl, hd⟩
  have HB := Lib.hid (HB.out.trans ((hd.below _).mono HB.out.size))
  clear hd hc0
  have hc0 := HC.out _ HB.out
  go_wp2_with fail
  refine (C1.out _ (HRX.out _ HB.out)).mono ?_
  rintro e0 w7 ⟨rfl, hb⟩
  have HB := Lib.hid (HB.out.trans (hb.mono HB.out.size))
  clear hb hc0
  have hc0 := HC.out _ HB.out
  go_wp2_with fail
  refine (C2.out _ (HRX.out _ HB.out)).mono ?_
  rintro e0 w8 ⟨rfl, rfl⟩
  go_wp2_with fail
  refine (B1.out _ (HRX.out _ HB.out)).mono ?_
  rintro e0 w8 ⟨rfl, hb⟩
  have HB := Lib.hid (HB.out.trans (hb.mono HB.out.size))
  clear hb hc0
  have hc0 := HC.out _ HB.out
  go_wp2_with fail
  refine (B2.out _ (HRX.out _ HB.out)).mono ?_
  rintro e0 w9 ⟨rfl, rfl⟩
  go_wp2
  go_ret
  exact ⟨ret_bool (by simp), HX.out.trans (HB.out.mono HX.out.size)⟩
end Go.Proofs.Ytdadplpibdjjbaa
