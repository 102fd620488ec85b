/- The walk of the statement WordBack. -/
import Derived.Test.YtfcfegnfcgglaaaWordLaws1
namespace Go.Proofs.Ytfcfegnfcgglaaa
open Go.RowKit
set_option linter.unusedVariables false

theorem rot_all (v : BitVec 64) (a : Int) (h : a % 64 = 0) : rot v a = v := by
  apply BitVec.eq_of_getLsbD_eq
  intro i hi
  rw [rot_bit _ _ _ hi, show (((i : Int) - a) % 64).toNat = i by omega]
theorem rot_back' (v : BitVec 64) (n : Int) (hn : -9223372036854775808 ≤ n) (hn2 : n ≤ 9223372036854775807) : rot (rot v n) (IntKind.i64.wrap (-n)) = v := by
  rw [rot_rot]
  apply rot_all
  rw [IntKind.wrap_i64]
  omega

theorem rot_back64 (v : BitVec 64) (n : Int) (hn : -9223372036854775808 ≤ n) (hn2 : n ≤ 9223372036854775807) : rot (rot v n) (wrap64 (-n)) = v := by
  rw [rot_rot]
  apply rot_all
  unfold wrap64
  omega
set_option maxRecDepth 100000 in
set_option maxHeartbeats 4000000 in
theorem WordBack_end (ls : List (BitVec 64)) (L : Option Addr) (cl : Nat) (v : BitVec 64) (f n : Int) (x : BitVec 64) (w : World)
    (hl : RdU w L ls) (h1 : ¬ 30 < ls.length)
    (hf : -9223372036854775808 ≤ f) (hf2 : f ≤ 9223372036854775807) (hn : -9223372036854775808 ≤ n) (hn2 : n ≤ 9223372036854775807) :
    Calls Try.prog 11 #[.slice L ls.length cl, U v, .int .i64 f, .int .i64 n, U x] w fun e w' => e = .returned (.bool true) ∧ Below w.heap.size w w' := by
  have HL := Lib.hid hl
  have hlm : ls.length ≤ maxLen := by unfold maxLen; omega
  have HN := Lib.hid (rot_back' v n hn hn2)
  clear hl
  go_enter Try.func11, Try.ntmps11
  go_wp2_with fail
  refine (wordAwake_any _).mono ?_
  rintro e w1 ⟨rfl, hw⟩
  have HW := Lib.hid hw
  clear hw
  go_wp2_with fail
  refine (Bytes_any ls L cl _ (HL.out.below HW.out) (by omega)).mono ?_
  rintro e w2 ⟨⟨B1, d1, rfl, hown⟩, hb⟩
  have HO1 := Lib.hid hown
  have HW := Lib.hid (HW.out.trans (hb.mono HW.out.size))
  clear hown hb
  go_wp2_with fail
  refine (Words_any (bytesOf ls) B1 d1 _ HO1.out.rd (by rw [length_bytesOf]; omega)).mono ?_
  rw [wordsOf_bytesOf]
  rintro e w3 ⟨⟨B2, d2, rfl, hown⟩, hb⟩
  have HO2 := Lib.hid hown
  have HW := Lib.hid (HW.out.trans (hb.mono HW.out.size))
  clear hown hb
  go_wp2_with fail
  refine (same1_any _ _ _ _ _ _ _ HO2.out.rd (HL.out.below HW.out) hlm hlm).mono ?_
  rintro e w4 ⟨rfl, hd⟩
  rw [show (ls == ls) = true from beq_self_eq_true _]
  have HW := Lib.hid (HW.out.trans (hd.below _))
  clear hd
  go_wp2_with fail
  refine (With_any v f n x hf hf2 hn hn2 _).mono ?_
  rintro e w5 ⟨rfl, rfl⟩
  by_cases hm : mayF f n = true
  · obtain ⟨m1, m2, m3, m4⟩ := (mayF_iff f n).1 hm
    have hw64 : IntKind.i64.wrap (64 - f) = 64 - f := IntWalk.i64_in _ (by omega)
    have HF := Lib.hid (with_field v x f n hm)
    have HB := Lib.hid (with_back v x f n hm)
    go_wp2_with fail
    refine (Field_any _ f n hf hf2 hn hn2 _).mono ?_
    rintro e w5 ⟨rfl, rfl⟩
    rw [HF.out]
    go_wp2_with fail
    refine (Field_any x 0 n (by decide) (by decide) hn hn2 _).mono ?_
    rintro e w5 ⟨rfl, rfl⟩
    go_wp2_with fail
    refine (Field_any v f n hf hf2 hn hn2 _).mono ?_
    rintro e w5 ⟨rfl, rfl⟩
    go_wp2_with fail
    refine (With_any _ f n _ hf hf2 hn hn2 _).mono ?_
    rintro e w5 ⟨rfl, rfl⟩
    rw [HB.out]
    go_wp2_with fail
    refine (Turn_any v n _).mono ?_
    rintro e w5 ⟨rfl, rfl⟩
    go_wp2_with fail
    refine (Turn_any _ _ _).mono ?_
    rintro e w5 ⟨rfl, rfl⟩
    first | rw [rot_back] | rw [HN.out] | rw [rot_back64 v n hn hn2]
    go_wp2
    go_ret
    exact ⟨rfl, HW.out⟩
  · have hwv : withW v f n x = v := by unfold withW; rw [if_neg hm]
    rw [hwv]
    by_cases c1 : 0 ≤ f
    · by_cases c2 : f ≤ 63
      · by_cases c3 : 1 ≤ n
        · have c4 : ¬ n ≤ 64 - f := fun h => hm ((mayF_iff f n).2 ⟨c1, c2, c3, h⟩)
          have hw64 : IntKind.i64.wrap (64 - f) = 64 - f := IntWalk.i64_in _ (by omega)
          have HC := Lib.hid hm
          clear hm
          go_wp2_with fail
          refine (Turn_any v n _).mono ?_
          rintro e w5 ⟨rfl, rfl⟩
          go_wp2_with fail
          refine (Turn_any _ _ _).mono ?_
          rintro e w5 ⟨rfl, rfl⟩
          first | rw [rot_back] | rw [HN.out] | rw [rot_back64 v n hn hn2]
          go_wp2
          go_ret
          exact ⟨rfl, HW.out⟩
        · clear hm
          go_wp2_with fail
          refine (Turn_any v n _).mono ?_
          rintro e w5 ⟨rfl, rfl⟩
          go_wp2_with fail
          refine (Turn_any _ _ _).mono ?_
          rintro e w5 ⟨rfl, rfl⟩
          first | rw [rot_back] | rw [HN.out] | rw [rot_back64 v n hn hn2]
          go_wp2
          go_ret
          exact ⟨rfl, HW.out⟩
      · clear hm
        go_wp2_with fail
        refine (Turn_any v n _).mono ?_
        rintro e w5 ⟨rfl, rfl⟩
        go_wp2_with fail
        refine (Turn_any _ _ _).mono ?_
        rintro e w5 ⟨rfl, rfl⟩
        first | rw [rot_back] | rw [HN.out] | rw [rot_back64 v n hn hn2]
        go_wp2
        go_ret
        exact ⟨rfl, HW.out⟩
    · clear hm
      go_wp2_with fail
      refine (Turn_any v n _).mono ?_
      rintro e w5 ⟨rfl, rfl⟩
      go_wp2_with fail
      refine (Turn_any _ _ _).mono ?_
      rintro e w5 ⟨rfl, rfl⟩
      first | rw [rot_back] | rw [HN.out] | rw [rot_back64 v n hn hn2]
      go_wp2
      go_ret
      exact ⟨rfl, HW.out⟩

theorem WordBack_walk (ls : List (BitVec 64)) (L : Option Addr) (cl : Nat) (v : BitVec 64) (f n : Int) (x : BitVec 64) (w : World)
    (hl : RdU w L ls) (hll : ls.length ≤ cl) (hlm : cl ≤ maxLen)
    (hf : -9223372036854775808 ≤ f) (hf2 : f ≤ 9223372036854775807) (hn : -9223372036854775808 ≤ n) (hn2 : n ≤ 9223372036854775807) :
    Calls Try.prog 11 #[.slice L ls.length cl, U v, .int .i64 f, .int .i64 n, U x] w fun e w' => e = .returned (.bool true) ∧ Below w.heap.size w w' := by
  by_cases h1 : 30 < ls.length
  · unfold maxLen at hlm
    clear hl
    go_enter Try.func11, Try.ntmps11
    go_wp2_with fail
    refine (wordAwake_any _).mono ?_
    rintro e w1 ⟨rfl, hw⟩
    have HW := Lib.hid hw
    clear hw
    go_wp2_with fail
    go_ret
    exact ⟨rfl, HW.out⟩
  exact WordBack_end ls L cl v f n x w hl h1 hf hf2 hn hn2
end Go.Proofs.Ytfcfegnfcgglaaa
