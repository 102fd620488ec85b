/- The walk of the statement NodeLong. No condition. -/
import Derived.Test.YtgkojedgamglgaaWords
import Derived.Test.YtgkojedgamglgaaEngQ
import Derived.KernelRfl
namespace Go.Proofs.Ytgkojedgamglgaa
open Go.RowKit
set_option linter.unusedVariables false
set_option linter.unusedSimpArgs false
theorem nodeAwake_any (w : World) : Calls Try.prog 49 #[] w fun e w' => e = .returned (.bool true) ∧ Below w.heap.size w w' :=
  Eng.isTrue_ok (by kernel_rfl) (by kernel_rfl) (lf := 5000) (d := 200) (by kernel_rfl) w
/-- A node without links and runs. -/
def bareN (t s : Int) : Value := .agg #[.int .i64 t, .int .i64 0, .int .i64 s, .slice none 0 0]
theorem Needs_dir (s : Int) (h0 : 0 ≤ s) (w : World) :
    Calls Try.prog 54 #[bareN 2 s] w fun e w' => e = .returned (.int .i64 s) ∧ Below w.heap.size w w' := by
  have HW := Lib.hid ((Below.refl w.heap.size w).alloc (Nat.le_refl _) (.cells #[.int .i64 2, .int .i64 0, .int .i64 s, .slice none 0 0] 84))
  have h1 : ¬ s < 0 := by omega
  unfold bareN
  go_enter Try.func54, Try.ntmps54
  go_wp2
  go_ret
  exact ⟨rfl, HW.out⟩
theorem Needs_file (t s : Int) (ht : t = 1 ∨ t = 3) (h0 : 0 ≤ s) (h2 : s ≤ 4294967296) (w : World) :
    Calls Try.prog 54 #[bareN t s] w fun e w' => e = .returned (.int .i64 ((s + 63) / 64)) ∧ Below w.heap.size w w' := by
  have HW := Lib.hid ((Below.refl w.heap.size w).alloc (Nat.le_refl _) (.cells #[.int .i64 t, .int .i64 0, .int .i64 s, .slice none 0 0] 84))
  have h1 : ¬ s < 0 := by omega
  have e1 : s.tdiv 64 = s / 64 := Int.tdiv_eq_ediv_of_nonneg h0
  have e2 : IntKind.i64.wrap (s / 64) = s / 64 := IntWalk.i64_in _ (by omega)
  have e3 : s.tmod 64 = s % 64 := Int.tmod_eq_emod_of_nonneg h0
  have e4 : IntKind.i64.wrap (s % 64) = s % 64 := IntWalk.i64_in _ (by omega)
  have e5 : IntKind.i64.wrap (s / 64 + 1) = s / 64 + 1 := IntWalk.i64_in _ (by omega)
  unfold bareN
  by_cases hr : s % 64 ≤ 1
  · have hv : (s + 63) / 64 = s / 64 + s % 64 := by omega
    have e6 : IntKind.i64.wrap (s / 64 + s % 64) = s / 64 + s % 64 := IntWalk.i64_in _ (by omega)
    rw [hv]
    clear hv
    rcases ht with rfl | rfl
    · go_enter Try.func54, Try.ntmps54
      go_wp2
      go_ret
      exact ⟨rfl, HW.out⟩
    · go_enter Try.func54, Try.ntmps54
      go_wp2
      go_ret
      exact ⟨rfl, HW.out⟩
  · have hv : (s + 63) / 64 = s / 64 + 1 := by omega
    rw [hv]
    clear hv
    rcases ht with rfl | rfl
    · go_enter Try.func54, Try.ntmps54
      go_wp2
      go_ret
      exact ⟨rfl, HW.out⟩
    · go_enter Try.func54, Try.ntmps54
      go_wp2
      go_ret
      exact ⟨rfl, HW.out⟩
theorem NodeLong_walk (s : Int) (w : World) (hs : -9223372036854775808 ≤ s) (hs2 : s ≤ 9223372036854775807) :
    Calls Try.prog 16 #[.int .i64 s] w fun e w' => e = .returned (.bool true) ∧ Below w.heap.size w w' := by
  by_cases h0 : s < 0
  · go_enter Try.func16, Try.ntmps16
    go_wp2_with fail
    refine (nodeAwake_any _).mono ?_
    rintro e w1 ⟨rfl, hb⟩
    go_wp2
    go_ret
    exact ⟨rfl, hb⟩
  by_cases h1 : 1073741824 < s
  · go_enter Try.func16, Try.ntmps16
    go_wp2_with fail
    refine (nodeAwake_any _).mono ?_
    rintro e w1 ⟨rfl, hb⟩
    go_wp2
    go_ret
    exact ⟨rfl, hb⟩
  have K1 := Lib.hid (fun W => Needs_file 1 s (.inl rfl) (by omega) (by omega) W)
  have K3 := Lib.hid (fun W => Needs_file 3 s (.inr rfl) (by omega) (by omega) W)
  have K2 := Lib.hid (fun W => Needs_dir s (by omega) W)
  have K4 := Lib.hid (fun W => Needs_file 1 (s + 1) (.inl rfl) (by omega) (by omega) W)
  have hm : (s + 1 + 63) / 64 = (s + 63) / 64 ∨ (s + 1 + 63) / 64 = (s + 63) / 64 + 1 := by omega
  have h5 : s ≤ 64 * ((s + 63) / 64) := by omega
  have h6 : 64 * ((s + 63) / 64) < s + 64 := by omega
  have h7 : 0 ≤ (s + 63) / 64 ∧ (s + 63) / 64 ≤ 1073741824 := by omega
  generalize (s + 63) / 64 = n at *
  generalize (s + 1 + 63) / 64 = m at *
  have e1 : IntKind.i64.wrap (s + 1) = s + 1 := IntWalk.i64_in _ (by omega)
  have e2 : IntKind.i64.wrap (64 * n) = 64 * n := IntWalk.i64_in _ (by omega)
  have e3 : IntKind.i64.wrap (s + 64) = s + 64 := IntWalk.i64_in _ (by omega)
  have e4 : IntKind.i64.wrap (n + 1) = n + 1 := IntWalk.i64_in _ (by omega)
  clear hs hs2 h7
  unfold bareN at *
  rcases hm with rfl | rfl
  · go_enter Try.func16, Try.ntmps16
    go_wp2_with fail
    refine (nodeAwake_any _).mono ?_
    rintro e w1 ⟨rfl, hb⟩
    have HW := Lib.hid hb
    clear hb
    go_wp2_with fail
    refine (K1.out _).mono ?_
    rintro e w2 ⟨rfl, hb⟩
    have HW := Lib.hid (HW.out.trans (hb.mono HW.out.size))
    clear hb
    go_wp2_with fail
    refine (K4.out _).mono ?_
    rintro e w3 ⟨rfl, hb⟩
    have HW := Lib.hid (HW.out.trans (hb.mono HW.out.size))
    clear hb
    go_wp2_with fail
    refine (K3.out _).mono ?_
    rintro e w4 ⟨rfl, hb⟩
    have HW := Lib.hid (HW.out.trans (hb.mono HW.out.size))
    clear hb
    go_wp2_with fail
    refine (K2.out _).mono ?_
    rintro e w5 ⟨rfl, hb⟩
    have HW := Lib.hid (HW.out.trans (hb.mono HW.out.size))
    clear hb
    go_wp2
    go_ret
    exact ⟨rfl, HW.out⟩
  · have h8 : (n + 1 == n) = false := by rw [beq_eq_false_iff_ne]; omega
    have h9 : ¬ (n + 1 = n) := by omega
    go_enter Try.func16, Try.ntmps16
    go_wp2_with fail
    refine (nodeAwake_any _).mono ?_
    rintro e w1 ⟨rfl, hb⟩
    have HW := Lib.hid hb
    clear hb
    go_wp2_with fail
    refine (K1.out _).mono ?_
    rintro e w2 ⟨rfl, hb⟩
    have HW := Lib.hid (HW.out.trans (hb.mono HW.out.size))
    clear hb
    go_wp2_with fail
    refine (K4.out _).mono ?_
    rintro e w3 ⟨rfl, hb⟩
    have HW := Lib.hid (HW.out.trans (hb.mono HW.out.size))
    clear hb
    go_wp2_with fail
    refine (K3.out _).mono ?_
    rintro e w4 ⟨rfl, hb⟩
    have HW := Lib.hid (HW.out.trans (hb.mono HW.out.size))
    clear hb
    go_wp2_with fail
    refine (K2.out _).mono ?_
    rintro e w5 ⟨rfl, hb⟩
    have HW := Lib.hid (HW.out.trans (hb.mono HW.out.size))
    clear hb
    go_wp2
    go_ret
    exact ⟨rfl, HW.out⟩
end Go.Proofs.Ytgkojedgamglgaa
