/- Chapter 6: awake, and the statement GeomPlain's walk. -/
import Derived.Test.YtdadplpibdjjbaaGeom3
namespace Go.Proofs.Ytdadplpibdjjbaa
open Go.RowKit
set_option linter.unusedVariables false
set_option linter.unusedSimpArgs false
set_option maxRecDepth 100000 in
theorem geomAwake_any (w : World) :
    Calls Try.prog 33 #[] w fun e w' => e = .returned (.bool true) ∧ Below w.heap.size w w' := by
  go_enter Try.func33, Try.ntmps33
  go_wp2_with fail
  refine (gPlain_any 64 _).mono ?_
  rintro e w1 ⟨rfl, hb⟩
  have HW := Lib.hid hb
  clear hb
  simp only [Geo.v]
  go_wp2_with fail
  have HW := Lib.hid (HW.out.alloc HW.out.size (.cells #[.int .i64 64, .int .i64 10, .int .i64 1, .int .i64 20] 45))
  refine (gBits_any ⟨64, 10, 1, 20⟩ _).mono ?_
  rintro e w2 ⟨rfl, hb⟩
  obtain ⟨c0, c1, c2, c3⟩ := geo_cells hb
  have HC := Lib.hid (fun (W : World) (h : Below w2.heap.size w2 W) => geo_cells (hb.trans (h.mono hb.size)))
  have HW := Lib.hid (HW.out.trans (hb.mono HW.out.size))
  rw [show (if (Geo.mk 64 10 1 20).good = true then (Geo.mk 64 10 1 20).fr else 0) = 21 by decide, show (if (Geo.mk 64 10 1 20).good = true then (Geo.mk 64 10 1 20).bn else 0) = 1 by decide]
  have HB2 := Lib.hid (Below.refl w2.heap.size w2)
  clear hb
  go_wp2_with fail
  refine (gData_any ⟨64, 10, 1, 20⟩ _).mono ?_
  rintro e w3 ⟨rfl, hb⟩
  have HB2 := Lib.hid (HB2.out.trans (hb.mono HB2.out.size))
  obtain ⟨c0, c1, c2, c3⟩ := HC.out _ HB2.out
  have HW := Lib.hid (HW.out.trans (hb.mono HW.out.size))
  clear hb
  rw [show (if (Geo.mk 64 10 1 20).good = true then (Geo.mk 64 10 1 20).df else 0) = 42 by decide, show (if (Geo.mk 64 10 1 20).good = true then (Geo.mk 64 10 1 20).dn else 0) = 21 by decide]
  go_wp2_with fail
  refine (ggood_any ⟨64, 10, 1, 20⟩ _).mono ?_
  rintro e w4 ⟨rfl, hb⟩
  have HB2 := Lib.hid (HB2.out.trans (hb.mono HB2.out.size))
  obtain ⟨c0, c1, c2, c3⟩ := HC.out _ HB2.out
  have HW := Lib.hid (HW.out.trans (hb.mono HW.out.size))
  clear hb
  rw [show (Geo.mk 64 10 1 20).good = true by decide]
  go_wp2_with fail
  refine (gNode_any ⟨64, 10, 1, 20⟩ 1 _).mono ?_
  rintro e w5 ⟨rfl, hb⟩
  have HB2 := Lib.hid (HB2.out.trans (hb.mono HB2.out.size))
  obtain ⟨c0, c1, c2, c3⟩ := HC.out _ HB2.out
  have HW := Lib.hid (HW.out.trans (hb.mono HW.out.size))
  clear hb
  rw [show (Geo.mk 64 10 1 20).nd 1 = 22 by decide]
  go_wp2_with fail
  refine (gBack_any ⟨64, 10, 1, 20⟩ _).mono ?_
  rintro e w6 ⟨rfl, hb⟩
  have HB2 := Lib.hid (HB2.out.trans (hb.mono HB2.out.size))
  obtain ⟨c0, c1, c2, c3⟩ := HC.out _ HB2.out
  have HW := Lib.hid (HW.out.trans (hb.mono HW.out.size))
  clear hb
  rw [show (if (Geo.mk 64 10 1 20).good = true then (Geo.mk 64 10 1 20).b - 1 else 0) = 63 by decide]
  go_wp2
  go_ret
  exact ⟨rfl, HW.out⟩
set_option maxRecDepth 100000 in
theorem GeomPlain_walk (n : Int) (w : World) (hn : -9223372036854775808 ≤ n) (hn2 : n ≤ 9223372036854775807) :
    Calls Try.prog 8 #[.int .i64 n] w fun e w' => e = .returned (.bool true) ∧ Below w.heap.size w w' := by
  by_cases hb : 64 ≤ n ∧ n ≤ 1024
  · obtain ⟨h1, h2⟩ := hb
    have HG := Lib.hid (show (Geo.mk n 10 1 20).good = true from ((Geo.mk n 10 1 20).good_iff).2 ⟨by unfold Geo.In; simp only; omega, by simp only [Geo.dn, Geo.df, Geo.fr, Geo.bn]; omega⟩)
    have hdf : 44 ≤ (Geo.mk n 10 1 20).df ∧ (Geo.mk n 10 1 20).df ≤ 44 ∨ (Geo.mk n 10 1 20).df = 42 ∨ (Geo.mk n 10 1 20).df = 43 := by simp only [Geo.df, Geo.fr, Geo.bn]; omega
    have hdn : (Geo.mk n 10 1 20).dn = n - 1 - (Geo.mk n 10 1 20).df := rfl
    have hd3 : (Geo.mk n 10 1 20).df ≤ 43 := by simp only [Geo.df, Geo.fr, Geo.bn]; omega
    have e1 : IntKind.i64.wrap (n - 1) = n - 1 := IntWalk.i64_in _ (by omega)
    have e2 : IntKind.i64.wrap (n - 44) = n - 44 := IntWalk.i64_in _ (by omega)
    have e3 : IntKind.i64.wrap ((Geo.mk n 10 1 20).df + (Geo.mk n 10 1 20).dn) = n - 1 := by rw [IntWalk.i64_in _ (by omega)]; omega
    have e4 : n - 44 ≤ (Geo.mk n 10 1 20).dn := by omega
    clear hdf hdn hd3
    go_enter Try.func8, Try.ntmps8
    go_wp2_with fail
    refine (geomAwake_any _).mono ?_
    rintro e w1 ⟨rfl, hb⟩
    have HW := Lib.hid hb
    clear hb
    go_wp2_with fail
    refine (gPlain_any n _).mono ?_
    rintro e w2 ⟨rfl, hb⟩
    have HW := Lib.hid (HW.out.trans (hb.mono HW.out.size))
    clear hb
    simp only [Geo.v]
    go_wp2_with fail
    have HW := Lib.hid (HW.out.alloc HW.out.size (.cells #[.int .i64 n, .int .i64 10, .int .i64 1, .int .i64 20] 45))
    refine (gData_any ⟨n, 10, 1, 20⟩ _).mono ?_
    rintro e w3 ⟨rfl, hb⟩
    obtain ⟨c0, c1, c2, c3⟩ := geo_cells hb
    have HC := Lib.hid (fun (W : World) (h : Below w3.heap.size w3 W) => geo_cells (hb.trans (h.mono hb.size)))
    have HW := Lib.hid (HW.out.trans (hb.mono HW.out.size))
    have HB2 := Lib.hid (Below.refl w3.heap.size w3)
    clear hb
    rw [HG.out]
    go_wp2_with fail
    refine (ggood_any ⟨n, 10, 1, 20⟩ _).mono ?_
    rintro e w4 ⟨rfl, hb⟩
    have HB2 := Lib.hid (HB2.out.trans (hb.mono HB2.out.size))
    obtain ⟨c0, c1, c2, c3⟩ := HC.out _ HB2.out
    have HW := Lib.hid (HW.out.trans (hb.mono HW.out.size))
    clear hb
    rw [HG.out]
    go_wp2_with fail
    refine (ggood_any ⟨n, 10, 1, 20⟩ _).mono ?_
    rintro e w5 ⟨rfl, hb⟩
    have HB2 := Lib.hid (HB2.out.trans (hb.mono HB2.out.size))
    obtain ⟨c0, c1, c2, c3⟩ := HC.out _ HB2.out
    have HW := Lib.hid (HW.out.trans (hb.mono HW.out.size))
    clear hb
    rw [HG.out]
    go_wp2
    go_ret
    exact ⟨rfl, HW.out⟩
  · have HG := Lib.hid (show (Geo.mk n 10 1 20).good = false by
      rw [Bool.eq_false_iff]
      intro h
      have := (((Geo.mk n 10 1 20).good_iff).1 h).1
      exact hb ⟨this.1, this.2.1⟩)
    by_cases h1 : 64 ≤ n
    · have h2 : ¬ n ≤ 1024 := fun h => hb ⟨h1, h⟩
      clear hb
      go_enter Try.func8, Try.ntmps8
      go_wp2_with fail
      refine (geomAwake_any _).mono ?_
      rintro e w1 ⟨rfl, hb⟩
      have HW := Lib.hid hb
      clear hb
      go_wp2_with fail
      refine (gPlain_any n _).mono ?_
      rintro e w2 ⟨rfl, hb⟩
      have HW := Lib.hid (HW.out.trans (hb.mono HW.out.size))
      clear hb
      simp only [Geo.v]
      go_wp2_with fail
      have HW := Lib.hid (HW.out.alloc HW.out.size (.cells #[.int .i64 n, .int .i64 10, .int .i64 1, .int .i64 20] 45))
      refine (gData_any ⟨n, 10, 1, 20⟩ _).mono ?_
      rintro e w3 ⟨rfl, hb⟩
      obtain ⟨c0, c1, c2, c3⟩ := geo_cells hb
      have HC := Lib.hid (fun (W : World) (h : Below w3.heap.size w3 W) => geo_cells (hb.trans (h.mono hb.size)))
      have HW := Lib.hid (HW.out.trans (hb.mono HW.out.size))
      have HB2 := Lib.hid (Below.refl w3.heap.size w3)
      clear hb
      rw [HG.out]
      go_wp2_with fail
      refine (ggood_any ⟨n, 10, 1, 20⟩ _).mono ?_
      rintro e w4 ⟨rfl, hb⟩
      have HB2 := Lib.hid (HB2.out.trans (hb.mono HB2.out.size))
      obtain ⟨c0, c1, c2, c3⟩ := HC.out _ HB2.out
      have HW := Lib.hid (HW.out.trans (hb.mono HW.out.size))
      clear hb
      rw [HG.out]
      go_wp2_with fail
      refine (ggood_any ⟨n, 10, 1, 20⟩ _).mono ?_
      rintro e w5 ⟨rfl, hb⟩
      have HB2 := Lib.hid (HB2.out.trans (hb.mono HB2.out.size))
      obtain ⟨c0, c1, c2, c3⟩ := HC.out _ HB2.out
      have HW := Lib.hid (HW.out.trans (hb.mono HW.out.size))
      clear hb
      rw [HG.out]
      go_wp2
      go_ret
      exact ⟨ret_bool (by simp [h2]), HW.out⟩
    · clear hb
      go_enter Try.func8, Try.ntmps8
      go_wp2_with fail
      refine (geomAwake_any _).mono ?_
      rintro e w1 ⟨rfl, hb⟩
      have HW := Lib.hid hb
      clear hb
      go_wp2_with fail
      refine (gPlain_any n _).mono ?_
      rintro e w2 ⟨rfl, hb⟩
      have HW := Lib.hid (HW.out.trans (hb.mono HW.out.size))
      clear hb
      simp only [Geo.v]
      go_wp2_with fail
      have HW := Lib.hid (HW.out.alloc HW.out.size (.cells #[.int .i64 n, .int .i64 10, .int .i64 1, .int .i64 20] 45))
      refine (gData_any ⟨n, 10, 1, 20⟩ _).mono ?_
      rintro e w3 ⟨rfl, hb⟩
      obtain ⟨c0, c1, c2, c3⟩ := geo_cells hb
      have HC := Lib.hid (fun (W : World) (h : Below w3.heap.size w3 W) => geo_cells (hb.trans (h.mono hb.size)))
      have HW := Lib.hid (HW.out.trans (hb.mono HW.out.size))
      have HB2 := Lib.hid (Below.refl w3.heap.size w3)
      clear hb
      rw [HG.out]
      go_wp2_with fail
      refine (ggood_any ⟨n, 10, 1, 20⟩ _).mono ?_
      rintro e w4 ⟨rfl, hb⟩
      have HB2 := Lib.hid (HB2.out.trans (hb.mono HB2.out.size))
      obtain ⟨c0, c1, c2, c3⟩ := HC.out _ HB2.out
      have HW := Lib.hid (HW.out.trans (hb.mono HW.out.size))
      clear hb
      rw [HG.out]
      go_wp2_with fail
      refine (ggood_any ⟨n, 10, 1, 20⟩ _).mono ?_
      rintro e w5 ⟨rfl, hb⟩
      have HB2 := Lib.hid (HB2.out.trans (hb.mono HB2.out.size))
      obtain ⟨c0, c1, c2, c3⟩ := HC.out _ HB2.out
      have HW := Lib.hid (HW.out.trans (hb.mono HW.out.size))
      clear hb
      rw [HG.out]
      go_wp2
      go_ret
      exact ⟨rfl, HW.out⟩
end Go.Proofs.Ytdadplpibdjjbaa
