/- Contracts of word's mask, Field, With, Turn and has, and of the reference's may, mask, Field and With. No condition. -/
import Derived.Test.YtfcfegnfcgglaaaSealRefWalks
import Derived.Test.YtfcfegnfcgglaaaWordPlain
import Derived.Test.YtfcfegnfcgglaaaGen
namespace Go.Proofs.Ytfcfegnfcgglaaa
open Go.RowKit
set_option linter.unusedVariables false

theorem rot_tmod (v : BitVec 64) (n : Int) : rot v (n.tmod 64) = rot v n := by
  obtain ⟨_, _, q, hq⟩ := tmod_spec n
  unfold rot
  congr 2
  omega
theorem mask_yes (f n : Int) (h : mayF f n = true) (w : World) :
    Calls Try.prog 38 #[.int .i64 f, .int .i64 n] w fun e w' => e = .returned (.tuple #[U (low n.toNat <<< f.toNat), .bool true]) ∧ w = w' := by
  obtain ⟨h1, h2, h3, h4⟩ := (mayF_iff f n).1 h
  clear h
  have HL := Lib.hid (show 18446744073709551615#64 >>> (64 - n).toNat = low n.toNat by
    unfold low; rw [show (64 - n).toNat = 64 - n.toNat by omega]; rfl)
  go_enter Try.func38, Try.ntmps38
  go_wp2
  go_ret2
  exact ⟨by rw [← HL.out]; rfl, rfl⟩
theorem mask_no (f n : Int) (h : mayF f n = false) (hf : -9223372036854775808 ≤ f) (hf2 : f ≤ 9223372036854775807) (hn : -9223372036854775808 ≤ n) (hn2 : n ≤ 9223372036854775807) (w : World) :
    Calls Try.prog 38 #[.int .i64 f, .int .i64 n] w fun e w' => e = .returned (.tuple #[U 0, .bool false]) ∧ w = w' := by
  have H := Lib.hid (show ¬ (0 ≤ f ∧ f ≤ 63 ∧ 1 ≤ n ∧ n ≤ 64 - f) from fun h' => by rw [(mayF_iff f n).2 h'] at h; cases h)
  clear h
  by_cases h1 : f < 0
  · go_enter Try.func38, Try.ntmps38
    go_wp2
    go_ret2
    exact ⟨rfl, rfl⟩
  by_cases h2 : 64 ≤ f
  · go_enter Try.func38, Try.ntmps38
    go_wp2
    go_ret2
    exact ⟨rfl, rfl⟩
  by_cases h3 : n < 1
  · go_enter Try.func38, Try.ntmps38
    go_wp2
    go_ret2
    exact ⟨rfl, rfl⟩
  have h4 : 64 - f < n := by have := H.out; omega
  go_enter Try.func38, Try.ntmps38
  go_wp2
  go_ret2
  exact ⟨rfl, rfl⟩

theorem Field_any (v : BitVec 64) (f n : Int) (hf : -9223372036854775808 ≤ f) (hf2 : f ≤ 9223372036854775807) (hn : -9223372036854775808 ≤ n) (hn2 : n ≤ 9223372036854775807) (w : World) :
    Calls Try.prog 22 #[U v, .int .i64 f, .int .i64 n] w fun e w' => e = .returned (U (fieldW v f n)) ∧ w = w' := by
  by_cases h : mayF f n = true
  · obtain ⟨h1, h2, h3, h4⟩ := (mayF_iff f n).1 h
    have hc := Lib.hid (mask_yes f n h w)
    have HF := Lib.hid (show (v &&& low n.toNat <<< f.toNat) >>> f.toNat = fieldW v f n by
      unfold fieldW; rw [if_pos h, field_form v f.toNat n.toNat (by omega)])
    clear h
    go_enter Try.func22, Try.ntmps22
    go_wp2_with fail
    refine hc.out.mono ?_
    rintro e w' ⟨rfl, rfl⟩
    go_wp2
    go_ret
    exact ⟨ret_U HF.out, rfl⟩
  · have h' : mayF f n = false := by simpa using h
    have hc := Lib.hid (mask_no f n h' hf hf2 hn hn2 w)
    have HF := Lib.hid (show 0 = fieldW v f n by unfold fieldW; rw [if_neg h])
    clear h h'
    go_enter Try.func22, Try.ntmps22
    go_wp2_with fail
    refine hc.out.mono ?_
    rintro e w' ⟨rfl, rfl⟩
    go_wp2
    go_ret
    exact ⟨ret_U HF.out, rfl⟩
theorem With_any (v : BitVec 64) (f n : Int) (x : BitVec 64) (hf : -9223372036854775808 ≤ f) (hf2 : f ≤ 9223372036854775807) (hn : -9223372036854775808 ≤ n) (hn2 : n ≤ 9223372036854775807) (w : World) :
    Calls Try.prog 28 #[U v, .int .i64 f, .int .i64 n, U x] w fun e w' => e = .returned (U (withW v f n x)) ∧ w = w' := by
  by_cases h : mayF f n = true
  · obtain ⟨h1, h2, h3, h4⟩ := (mayF_iff f n).1 h
    have hc := Lib.hid (mask_yes f n h w)
    have HF := Lib.hid (show (v &&& ~~~(low n.toNat <<< f.toNat)) ||| (x <<< f.toNat &&& (low n.toNat <<< f.toNat)) = withW v f n x by
      unfold withW; rw [if_pos h])
    clear h
    go_enter Try.func28, Try.ntmps28
    go_wp2_with fail
    refine hc.out.mono ?_
    rintro e w' ⟨rfl, rfl⟩
    go_wp2
    go_ret
    exact ⟨ret_U HF.out, rfl⟩
  · have h' : mayF f n = false := by simpa using h
    have hc := Lib.hid (mask_no f n h' hf hf2 hn hn2 w)
    have HF := Lib.hid (show v = withW v f n x by unfold withW; rw [if_neg h])
    clear h h'
    go_enter Try.func28, Try.ntmps28
    go_wp2_with fail
    refine hc.out.mono ?_
    rintro e w' ⟨rfl, rfl⟩
    go_wp2
    go_ret
    exact ⟨ret_U HF.out, rfl⟩
theorem Turn_any (v : BitVec 64) (n : Int) (w : World) :
    Calls Try.prog 25 #[U v, .int .i64 n] w fun e w' => e = .returned (U (rot v n)) ∧ w = w' := by
  obtain ⟨hlo, hhi, _⟩ := tmod_spec n
  have hc := Lib.hid (rot_any v (n.tmod 64) w)
  have HR := Lib.hid (rot_tmod v n)
  go_enter Try.func25, Try.ntmps25
  go_wp2_with fail
  refine hc.out.mono ?_
  rintro e w' ⟨rfl, rfl⟩
  go_wp2
  go_ret
  exact ⟨ret_U HR.out, rfl⟩

/-! ### The reference's -/
theorem refmay_yes (f n : Int) (h : mayF f n = true) (w : World) :
    Calls Try.prog 41 #[.int .i64 f, .int .i64 n] w fun e w' => e = .returned (.bool true) ∧ w = w' := by
  obtain ⟨h1, h2, h3, h4⟩ := (mayF_iff f n).1 h
  clear h
  go_enter Try.func41, Try.ntmps41
  go_wp2
  go_ret
  exact ⟨rfl, rfl⟩
theorem refmay_no (f n : Int) (h : mayF f n = false) (hf : -9223372036854775808 ≤ f) (hf2 : f ≤ 9223372036854775807) (hn : -9223372036854775808 ≤ n) (hn2 : n ≤ 9223372036854775807) (w : World) :
    Calls Try.prog 41 #[.int .i64 f, .int .i64 n] w fun e w' => e = .returned (.bool false) ∧ w = w' := by
  have H := Lib.hid (show ¬ (0 ≤ f ∧ f ≤ 63 ∧ 1 ≤ n ∧ n ≤ 64 - f) from fun h' => by rw [(mayF_iff f n).2 h'] at h; cases h)
  clear h
  by_cases h1 : f < 0
  · go_enter Try.func41, Try.ntmps41
    go_wp2
    go_ret
    exact ⟨rfl, rfl⟩
  by_cases h2 : 63 < f
  · go_enter Try.func41, Try.ntmps41
    go_wp2
    go_ret
    exact ⟨rfl, rfl⟩
  by_cases h3 : n < 1
  · go_enter Try.func41, Try.ntmps41
    go_wp2
    go_ret
    exact ⟨rfl, rfl⟩
  have h4 : 64 - f < n := by have := H.out; omega
  go_enter Try.func41, Try.ntmps41
  go_wp2
  go_ret
  exact ⟨ret_bool (by rw [decide_eq_false_iff_not]; omega), rfl⟩
theorem refmask_any (n : Int) (h1 : 1 ≤ n) (h2 : n ≤ 64) (w : World) :
    Calls Try.prog 42 #[.int .i64 n] w fun e w' => e = .returned (U (low n.toNat)) ∧ w = w' := by
  by_cases h : n = 64
  · subst h
    go_enter Try.func42, Try.ntmps42
    go_wp2
    go_ret
    exact ⟨rfl, rfl⟩
  · have HF := Lib.hid (low_form n.toNat (by omega))
    have HN := Lib.hid (toNat_ofInt_small n (by omega) (by omega))
    have h3 : n < 64 := by omega
    clear h
    go_enter Try.func42, Try.ntmps42
    go_wp2
    go_ret
    exact ⟨ret_U (by rw [← HF.out, ← HN.out]; rfl), rfl⟩
theorem refField_any (v : BitVec 64) (f n : Int) (hf : -9223372036854775808 ≤ f) (hf2 : f ≤ 9223372036854775807) (hn : -9223372036854775808 ≤ n) (hn2 : n ≤ 9223372036854775807) (w : World) :
    Calls Try.prog 34 #[U v, .int .i64 f, .int .i64 n] w fun e w' => e = .returned (U (fieldW v f n)) ∧ w = w' := by
  by_cases h : mayF f n = true
  · obtain ⟨h1, h2, h3, h4⟩ := (mayF_iff f n).1 h
    have hc := Lib.hid (refmay_yes f n h w)
    have hm := Lib.hid (refmask_any n h3 (by omega) w)
    have HF := Lib.hid (show (v >>> f.toNat) &&& low n.toNat = fieldW v f n by unfold fieldW; rw [if_pos h])
    have HN := Lib.hid (toNat_ofInt_small f (by omega) (by omega))
    clear h
    go_enter Try.func34, Try.ntmps34
    go_wp2_with fail
    refine hc.out.mono ?_
    rintro e w' ⟨rfl, rfl⟩
    go_wp2_with fail
    refine hm.out.mono ?_
    rintro e w' ⟨rfl, rfl⟩
    go_wp2
    go_ret
    exact ⟨ret_U (by rw [← HF.out, ← HN.out]; rfl), rfl⟩
  · have h' : mayF f n = false := by simpa using h
    have hc := Lib.hid (refmay_no f n h' hf hf2 hn hn2 w)
    have HF := Lib.hid (show 0 = fieldW v f n by unfold fieldW; rw [if_neg h])
    clear h h'
    go_enter Try.func34, Try.ntmps34
    go_wp2_with fail
    refine hc.out.mono ?_
    rintro e w' ⟨rfl, rfl⟩
    go_wp2
    go_ret
    exact ⟨ret_U HF.out, rfl⟩
theorem refWith_any (v : BitVec 64) (f n : Int) (x : BitVec 64) (hf : -9223372036854775808 ≤ f) (hf2 : f ≤ 9223372036854775807) (hn : -9223372036854775808 ≤ n) (hn2 : n ≤ 9223372036854775807) (w : World) :
    Calls Try.prog 35 #[U v, .int .i64 f, .int .i64 n, U x] w fun e w' => e = .returned (U (withW v f n x)) ∧ w = w' := by
  by_cases h : mayF f n = true
  · obtain ⟨h1, h2, h3, h4⟩ := (mayF_iff f n).1 h
    have hc := Lib.hid (refmay_yes f n h w)
    have hm := Lib.hid (refmask_any n h3 (by omega) w)
    have HF := Lib.hid (show (v &&& ~~~(low n.toNat <<< f.toNat)) ||| (x <<< f.toNat &&& (low n.toNat <<< f.toNat)) = withW v f n x by
      unfold withW; rw [if_pos h])
    have HN := Lib.hid (toNat_ofInt_small f (by omega) (by omega))
    clear h
    go_enter Try.func35, Try.ntmps35
    go_wp2_with fail
    refine hc.out.mono ?_
    rintro e w' ⟨rfl, rfl⟩
    go_wp2_with fail
    refine hm.out.mono ?_
    rintro e w' ⟨rfl, rfl⟩
    go_wp2
    go_ret
    exact ⟨ret_U (by rw [← HF.out, ← HN.out]; rfl), rfl⟩
  · have h' : mayF f n = false := by simpa using h
    have hc := Lib.hid (refmay_no f n h' hf hf2 hn hn2 w)
    have HF := Lib.hid (show v = withW v f n x by unfold withW; rw [if_neg h])
    clear h h'
    go_enter Try.func35, Try.ntmps35
    go_wp2_with fail
    refine hc.out.mono ?_
    rintro e w' ⟨rfl, rfl⟩
    go_wp2
    go_ret
    exact ⟨ret_U HF.out, rfl⟩
end Go.Proofs.Ytfcfegnfcgglaaa
