/- The walks of chapter 1's awake and of the statements WordBits and WordTurns. -/
import Derived.Test.YtfcfegnfcgglaaaWordWalks5
import Derived.Test.YtfcfegnfcgglaaaSame1
import Derived.Test.YtfcfegnfcgglaaaWordPlain2
namespace Go.Proofs.Ytfcfegnfcgglaaa
open Go.RowKit
set_option linter.unusedVariables false

theorem wordAwake_any (w : World) :
    Calls Try.prog 21 #[] w fun e w' => e = .returned (.bool true) ∧ Below w.heap.size w w' := by
  go_enter Try.func21, Try.ntmps21
  go_wp2_with fail
  have hb0 : Below w.heap.size w (w.alloc (.cells #[.int .u64 1, .int .u64 2] 23)) := (Below.refl _ _).alloc (Nat.le_refl _) _
  have hr0 : RdU (w.alloc (.cells #[.int .u64 1, .int .u64 2] 23)) (some ⟨w.heap.size, 0, none⟩) [1#64, 2#64] := RdU.new2 w 1#64 2#64 _
  refine (Bytes_any [1#64, 2#64] (some ⟨w.heap.size, 0, none⟩) 2 _ hr0 (by decide)).mono ?_
  rintro e w1 ⟨⟨B, d, rfl, hown⟩, hb1⟩
  have HB := Lib.hid (hb0.trans (hb1.mono hb0.size))
  have HO := Lib.hid hown
  rw [show (bytesOf [1#64, 2#64]).length = 16 from rfl]
  clear hb0 hr0 hown hb1
  go_wp2_with fail
  refine (Field_any 43981#64 4 8 (by decide) (by decide) (by decide) (by decide) _).mono ?_
  rintro e w2 ⟨rfl, rfl⟩
  rw [show fieldW 43981#64 4 8 = 188#64 by decide]
  go_wp2_with fail
  refine (Get_any (bytesOf [1#64, 2#64]) B d 1 (by decide) (by decide) (by decide) _ HO.out.rd).mono ?_
  rintro e w2 ⟨rfl, rfl⟩
  rw [show getW (bytesOf [1#64, 2#64]) 1 = 2#64 from getW_bytesOf [1#64, 2#64] 1 (by decide)]
  go_wp2_with fail
  refine (Turn_any 1#64 1 _).mono ?_
  rintro e w2 ⟨rfl, rfl⟩
  rw [show rot 1#64 1 = 2#64 by decide]
  go_wp2_with fail
  refine (With_any 0#64 4 4 3#64 (by decide) (by decide) (by decide) (by decide) _).mono ?_
  rintro e w2 ⟨rfl, rfl⟩
  rw [show withW 0#64 4 4 3#64 = 48#64 by decide]
  go_wp2
  go_ret
  exact ⟨rfl, HB.out⟩

theorem WordTurns_walk (v : BitVec 64) (a b : Int) (w : World) (ha : -9223372036854775808 ≤ a) (ha2 : a ≤ 9223372036854775807) (hb : -9223372036854775808 ≤ b) (hb2 : b ≤ 9223372036854775807) :
    Calls Try.prog 10 #[U v, .int .i64 a, .int .i64 b] w fun e w' => e = .returned (.bool true) ∧ Below w.heap.size w w' := by
  go_enter Try.func10, Try.ntmps10
  go_wp2_with fail
  refine (wordAwake_any _).mono ?_
  rintro e w1 ⟨rfl, hw⟩
  have HW := Lib.hid hw
  clear hw
  by_cases h1 : a < -1000
  · go_wp2_with fail
    go_ret
    exact ⟨rfl, HW.out⟩
  by_cases h2 : 1000 < a
  · go_wp2_with fail
    go_ret
    exact ⟨rfl, HW.out⟩
  by_cases h3 : b < -1000
  · go_wp2_with fail
    go_ret
    exact ⟨rfl, HW.out⟩
  by_cases h4 : 1000 < b
  · go_wp2_with fail
    go_ret
    exact ⟨rfl, HW.out⟩
  go_wp2_with fail
  refine (Turn_any v a _).mono ?_
  rintro e w2 ⟨rfl, rfl⟩
  go_wp2_with fail
  refine (Turn_any _ b _).mono ?_
  rintro e w2 ⟨rfl, rfl⟩
  rw [rot_rot]
  go_wp2_with fail
  refine (Turn_any v _ _).mono ?_
  rintro e w2 ⟨rfl, rfl⟩
  go_wp2_with fail
  refine (Turn_any v _ _).mono ?_
  rintro e w2 ⟨rfl, rfl⟩
  rw [rot_more]
  go_wp2_with fail
  refine (Turn_any v a _).mono ?_
  rintro e w2 ⟨rfl, rfl⟩
  go_wp2_with fail
  refine (Turn_any v 8 _).mono ?_
  rintro e w2 ⟨rfl, rfl⟩
  go_wp2_with fail
  refine (Field_any _ 8 56 (by decide) (by decide) (by decide) (by decide) _).mono ?_
  rintro e w2 ⟨rfl, rfl⟩
  rw [field_turn]
  go_wp2_with fail
  refine (Field_any v 0 56 (by decide) (by decide) (by decide) (by decide) _).mono ?_
  rintro e w2 ⟨rfl, rfl⟩
  go_wp2
  go_ret
  exact ⟨rfl, HW.out⟩

theorem WordBits_walk (v : BitVec 64) (f a b : Int) (w : World) (hf : -9223372036854775808 ≤ f) (hf2 : f ≤ 9223372036854775807) (ha : -9223372036854775808 ≤ a) (ha2 : a ≤ 9223372036854775807) (hb : -9223372036854775808 ≤ b) (hb2 : b ≤ 9223372036854775807) :
    Calls Try.prog 8 #[U v, .int .i64 f, .int .i64 a, .int .i64 b] w fun e w' => e = .returned (.bool true) ∧ Below w.heap.size w w' := by
  go_enter Try.func8, Try.ntmps8
  go_wp2_with fail
  refine (wordAwake_any _).mono ?_
  rintro e w1 ⟨rfl, hw⟩
  have HW := Lib.hid hw
  clear hw
  by_cases h1 : f < 0
  · go_wp2_with fail
    go_ret
    exact ⟨rfl, HW.out⟩
  by_cases h2 : 63 < f
  · go_wp2_with fail
    go_ret
    exact ⟨rfl, HW.out⟩
  by_cases h3 : a < 1
  · go_wp2_with fail
    go_ret
    exact ⟨rfl, HW.out⟩
  by_cases h4 : b < 1
  · go_wp2_with fail
    go_ret
    exact ⟨rfl, HW.out⟩
  by_cases h5 : 63 - f < a
  · go_wp2_with fail
    go_ret
    exact ⟨rfl, HW.out⟩
  by_cases h6 : 64 - f - a < b
  · go_wp2_with fail
    go_ret
    exact ⟨rfl, HW.out⟩
  have HF := Lib.hid (show (fieldW v f (a + b) == fieldW v f a ||| shlv (fieldW v (f + a) b) (BitVec.ofInt 64 a)) = true by
    obtain ⟨F, rfl⟩ := Int.eq_ofNat_of_zero_le (show 0 ≤ f by omega)
    obtain ⟨M, rfl⟩ := Int.eq_ofNat_of_zero_le (show 0 ≤ a by omega)
    obtain ⟨K, rfl⟩ := Int.eq_ofNat_of_zero_le (show 0 ≤ b by omega)
    rw [beq_iff_eq, field_parts v F M K (by omega) (by omega) (by omega) (by omega)]
    unfold shlv
    rw [toNat_ofInt_small _ (by omega) (by omega)]
    rfl)
  go_wp2_with fail
  refine (Field_any v f (a + b) (by omega) (by omega) (by omega) (by omega) _).mono ?_
  rintro e w2 ⟨rfl, rfl⟩
  go_wp2_with fail
  refine (Field_any v f a (by omega) (by omega) (by omega) (by omega) _).mono ?_
  rintro e w2 ⟨rfl, rfl⟩
  go_wp2_with fail
  refine (Field_any v (f + a) b (by omega) (by omega) (by omega) (by omega) _).mono ?_
  rintro e w2 ⟨rfl, rfl⟩
  go_wp2
  go_ret
  exact ⟨ret_bool HF.out, HW.out⟩
end Go.Proofs.Ytfcfegnfcgglaaa
