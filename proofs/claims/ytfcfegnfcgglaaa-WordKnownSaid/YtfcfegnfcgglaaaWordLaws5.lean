/- The walk of the statement WordKnown. -/
import Derived.Test.YtfcfegnfcgglaaaWordLaws1
import Derived.Test.YtfcfegnfcgglaaaStr
import Derived.Test.YtfcfegnfcgglaaaRegion
namespace Go.Proofs.Ytfcfegnfcgglaaa
open Go.RowKit
set_option linter.unusedVariables false

set_option maxRecDepth 100000 in
set_option maxHeartbeats 4000000 in
theorem WordKnown_walk (w : World) :
    Calls Try.prog 12 #[] w fun e w' => e = .returned (.bool true) ∧ Below w.heap.size w w' := by
  go_enter Try.func12, Try.ntmps12
  go_wp2_with fail
  refine (wordAwake_any _).mono ?_
  rintro e w1 ⟨rfl, hw⟩
  have HW := Lib.hid hw
  clear hw
  go_wp2_with fail
  have hown0 : OwnF Y 5 (w1.alloc (.cells #[.int .u8 1, .int .u8 2, .int .u8 3, .int .u8 4, .int .u8 5, .int .u8 6, .int .u8 7, .int .u8 8, .int .u8 9] 5)) w1.heap.size (some ⟨w1.heap.size, 0, none⟩) [1#8, 2#8, 3#8, 4#8, 5#8, 6#8, 7#8, 8#8, 9#8] 9 :=
    OwnF.lit (f := Y) (e := 5) w1 w1.heap.size [1#8, 2#8, 3#8, 4#8, 5#8, 6#8, 7#8, 8#8, 9#8] (Nat.le_refl _) (by decide)
  have HO0 := Lib.hid hown0
  have HW := Lib.hid (HW.out.alloc HW.out.size (.cells #[.int .u8 1, .int .u8 2, .int .u8 3, .int .u8 4, .int .u8 5, .int .u8 6, .int .u8 7, .int .u8 8, .int .u8 9] 5))
  clear hown0
  refine (Put_any [1#8, 2#8, 3#8, 4#8, 5#8, 6#8, 7#8, 8#8, 9#8] _ 9 0 72623859790382856#64 _ HO0.out.rd (by decide)).mono ?_
  rw [show hasB ([1#8, 2#8, 3#8, 4#8, 5#8, 6#8, 7#8, 8#8, 9#8] : List (BitVec 8)).length 0 = true by decide]
  rintro e w2 ⟨⟨B1, d1, rfl, hown⟩, hb⟩
  have HO1 := Lib.hid hown
  have HO0 := Lib.hid (HO0.out.below hb)
  have HW := Lib.hid (HW.out.trans (hb.mono HW.out.size))
  clear hown hb
  go_wp2_with fail
  refine (Put_any [1#8, 2#8, 3#8, 4#8, 5#8, 6#8, 7#8, 8#8, 9#8] _ 9 1 7#64 _ HO0.out.rd (by decide)).mono ?_
  rw [show hasB ([1#8, 2#8, 3#8, 4#8, 5#8, 6#8, 7#8, 8#8, 9#8] : List (BitVec 8)).length 1 = false by decide]
  rintro e w3 ⟨⟨B2, d2, rfl, hown⟩, hb⟩
  have HO2 := Lib.hid hown
  have HO1 := Lib.hid (HO1.out.below hb)
  have HO0 := Lib.hid (HO0.out.below hb)
  have HW := Lib.hid (HW.out.trans (hb.mono HW.out.size))
  have HC1 := Lib.hid (fun (W : World) (h : RdF Y W (some ⟨w1.heap.size, 0, none⟩) [1#8, 2#8, 3#8, 4#8, 5#8, 6#8, 7#8, 8#8, 9#8]) => by
    have hcx : W.cell? ⟨w1.heap.size, 0, none⟩ = some (.int .u8 1) := by
      obtain ⟨b', o', e, hc⟩ := h.at_ (k := 0) (by decide)
      cases e
      exact hc 0 (by decide)
    exact hcx)
  clear hown hb
  have hstr18 := run_str (P := Try.prog) w3 37 9 5 Try.underlying37 Try.underlying5 Try.underlying9 B1 (putW [1#8, 2#8, 3#8, 4#8, 5#8, 6#8, 7#8, 8#8, 9#8] 0 72623859790382856#64) d1 (HO1.out.rd)
  rw [show strY (putW [1#8, 2#8, 3#8, 4#8, 5#8, 6#8, 7#8, 8#8, 9#8] 0 72623859790382856#64) = ⟨#[8, 7, 6, 5, 4, 3, 2, 1, 9]⟩ by decide] at hstr18
  have hstr27 := run_str (P := Try.prog) w3 37 9 5 Try.underlying37 Try.underlying5 Try.underlying9 B2 (putW [1#8, 2#8, 3#8, 4#8, 5#8, 6#8, 7#8, 8#8, 9#8] 1 7#64) d2 (HO2.out.rd)
  rw [show strY (putW [1#8, 2#8, 3#8, 4#8, 5#8, 6#8, 7#8, 8#8, 9#8] 1 7#64) = ⟨#[1, 2, 3, 4, 5, 6, 7, 8, 9]⟩ by decide] at hstr27
  have hstr29 := run_str (P := Try.prog) w3 37 9 5 Try.underlying37 Try.underlying5 Try.underlying9 _ [1#8, 2#8, 3#8, 4#8, 5#8, 6#8, 7#8, 8#8, 9#8] 9 (HO0.out.rd)
  rw [show strY [1#8, 2#8, 3#8, 4#8, 5#8, 6#8, 7#8, 8#8, 9#8] = ⟨#[1, 2, 3, 4, 5, 6, 7, 8, 9]⟩ by decide] at hstr29
  rw [show ([1#8, 2#8, 3#8, 4#8, 5#8, 6#8, 7#8, 8#8, 9#8] : List (BitVec 8)).length = 9 from rfl] at hstr29
  have hc1 := HC1.out w3 HO0.out.rd
  go_wp2_with fail
  refine (Get_any [1#8, 2#8, 3#8, 4#8, 5#8, 6#8, 7#8, 8#8, 9#8] _ 9 0 (by decide) (by decide) (by decide) _ HO0.out.rd).mono ?_
  rintro e w' ⟨rfl, rfl⟩
  rw [show getW [1#8, 2#8, 3#8, 4#8, 5#8, 6#8, 7#8, 8#8, 9#8] 0 = 578437695752307201#64 by decide]
  go_wp2_with fail
  refine (Get_any [1#8, 2#8, 3#8, 4#8, 5#8, 6#8, 7#8, 8#8, 9#8] _ 9 1 (by decide) (by decide) (by decide) _ HO0.out.rd).mono ?_
  rintro e w' ⟨rfl, rfl⟩
  rw [show getW [1#8, 2#8, 3#8, 4#8, 5#8, 6#8, 7#8, 8#8, 9#8] 1 = 0#64 by decide]
  go_wp2_with fail
  refine (Get_any [1#8, 2#8, 3#8, 4#8, 5#8, 6#8, 7#8, 8#8, 9#8] _ 9 (-1) (by decide) (by decide) (by decide) _ HO0.out.rd).mono ?_
  rintro e w' ⟨rfl, rfl⟩
  rw [show getW [1#8, 2#8, 3#8, 4#8, 5#8, 6#8, 7#8, 8#8, 9#8] (-1) = 0#64 by decide]
  go_wp2_with fail
  refine (Words_any [1#8, 2#8, 3#8, 4#8, 5#8, 6#8, 7#8, 8#8, 9#8] _ 9 _ HO0.out.rd (by decide)).mono ?_
  rintro e w' ⟨⟨B, d, rfl, hown⟩, hb⟩
  have HW := Lib.hid (HW.out.trans (hb.mono HW.out.size))
  clear hown hb
  rw [show (wordsOf [1#8, 2#8, 3#8, 4#8, 5#8, 6#8, 7#8, 8#8, 9#8]).length = 1 by decide]
  go_wp2_with fail
  refine (Field_any 18446744073709551615#64 0 64 (by decide) (by decide) (by decide) (by decide) _).mono ?_
  rintro e w' ⟨rfl, rfl⟩
  rw [show fieldW 18446744073709551615#64 0 64 = 18446744073709551615#64 by decide]
  go_wp2_with fail
  refine (Field_any 1#64 0 65 (by decide) (by decide) (by decide) (by decide) _).mono ?_
  rintro e w' ⟨rfl, rfl⟩
  rw [show fieldW 1#64 0 65 = 0#64 by decide]
  go_wp2_with fail
  refine (Field_any 1#64 (-1) 1 (by decide) (by decide) (by decide) (by decide) _).mono ?_
  rintro e w' ⟨rfl, rfl⟩
  rw [show fieldW 1#64 (-1) 1 = 0#64 by decide]
  go_wp2_with fail
  refine (Field_any 1#64 0 0 (by decide) (by decide) (by decide) (by decide) _).mono ?_
  rintro e w' ⟨rfl, rfl⟩
  rw [show fieldW 1#64 0 0 = 0#64 by decide]
  go_wp2_with fail
  refine (With_any 5#64 63 2 9#64 (by decide) (by decide) (by decide) (by decide) _).mono ?_
  rintro e w' ⟨rfl, rfl⟩
  rw [show withW 5#64 63 2 9#64 = 5#64 by decide]
  go_wp2_with fail
  refine (With_any 0#64 0 64 9#64 (by decide) (by decide) (by decide) (by decide) _).mono ?_
  rintro e w' ⟨rfl, rfl⟩
  rw [show withW 0#64 0 64 9#64 = 9#64 by decide]
  go_wp2_with fail
  refine (Turn_any 1#64 (-1) _).mono ?_
  rintro e w' ⟨rfl, rfl⟩
  rw [show rot 1#64 (-1) = 9223372036854775808#64 by decide]
  go_wp2_with fail
  refine (Turn_any 5#64 64 _).mono ?_
  rintro e w' ⟨rfl, rfl⟩
  rw [show rot 5#64 64 = 5#64 by decide]
  go_wp2_with fail
  refine (Turn_any 9223372036854775808#64 1 _).mono ?_
  rintro e w' ⟨rfl, rfl⟩
  rw [show rot 9223372036854775808#64 1 = 1#64 by decide]
  go_wp2_with fail
  refine (Bytes_any [] none 0 _ RdU.nil_ (by decide)).mono ?_
  rintro e w' ⟨⟨B, d, rfl, hown⟩, hb⟩
  have HW := Lib.hid (HW.out.trans (hb.mono HW.out.size))
  clear hown hb
  rw [show (bytesOf []).length = 0 by decide]
  go_wp2
  go_ret
  exact ⟨rfl, HW.out⟩
end Go.Proofs.Ytfcfegnfcgglaaa
