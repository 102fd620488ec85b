/- Chapter 6: the walks of package geom's exported functions. -/
import Derived.Test.YtdadplpibdjjbaaGeom
namespace Go.Proofs.Ytdadplpibdjjbaa
open Go.RowKit
set_option linter.unusedVariables false
set_option linter.unusedSimpArgs false

set_option maxRecDepth 100000 in
theorem gBits_any (g : Geo) (w : World) :
    Calls Try.prog 36 #[g.v] w fun e w' => e = .returned (.tuple #[.int .i64 (if g.good = true then g.fr else 0), .int .i64 (if g.good = true then g.bn else 0)]) ∧ Below w.heap.size w w' := by
  have HG := Lib.hid (fun W => ggood_any g W)
  have HD := Lib.hid (fun h W => gbits_any g h W)
  have HI := Lib.hid (Geo.good_iff g)
  generalize hgd : g.good = gd at *
  generalize hs1 : g.fr = s1 at *
  generalize hs2 : g.bn = s2 at *
  obtain ⟨b, n, c, k⟩ := g
  clear hgd hs1 hs2
  have HW := Lib.hid ((Below.refl w.heap.size w).alloc (Nat.le_refl _) (.cells #[.int .i64 b, .int .i64 n, .int .i64 c, .int .i64 k] 45))
  simp only [Geo.v] at *
  cases gd with
  | false =>
    go_enter Try.func36, Try.ntmps36
    go_wp2_with fail
    refine (HG.out _).mono ?_
    rintro e w2 ⟨rfl, hb⟩
    have HW := Lib.hid (HW.out.trans (hb.mono HW.out.size))
    clear hb
    go_wp2
    go_ret2
    exact ⟨rfl, HW.out⟩
  | true =>
    have HIn := Lib.hid (HI.out.1 rfl).1
    go_enter Try.func36, Try.ntmps36
    go_wp2_with fail
    refine (HG.out _).mono ?_
    rintro e w2 ⟨rfl, hb⟩
    obtain ⟨c0, c1, c2, c3⟩ := geo_cells hb
    have HW := Lib.hid (HW.out.trans (hb.mono HW.out.size))
    clear hb
    go_wp2_with fail
    refine (HD.out HIn.out _).mono ?_
    rintro e w3 ⟨rfl, hb⟩
    have HW := Lib.hid (HW.out.trans (hb.mono HW.out.size))
    clear hb
    go_wp2
    go_ret2
    exact ⟨rfl, HW.out⟩

set_option maxRecDepth 100000 in
theorem gData_any (g : Geo) (w : World) :
    Calls Try.prog 35 #[g.v] w fun e w' => e = .returned (.tuple #[.int .i64 (if g.good = true then g.df else 0), .int .i64 (if g.good = true then g.dn else 0)]) ∧ Below w.heap.size w w' := by
  have HG := Lib.hid (fun W => ggood_any g W)
  have HD := Lib.hid (fun h W => gdata_any g h W)
  have HI := Lib.hid (Geo.good_iff g)
  generalize hgd : g.good = gd at *
  generalize hs1 : g.df = s1 at *
  generalize hs2 : g.dn = s2 at *
  obtain ⟨b, n, c, k⟩ := g
  clear hgd hs1 hs2
  have HW := Lib.hid ((Below.refl w.heap.size w).alloc (Nat.le_refl _) (.cells #[.int .i64 b, .int .i64 n, .int .i64 c, .int .i64 k] 45))
  simp only [Geo.v] at *
  cases gd with
  | false =>
    go_enter Try.func35, Try.ntmps35
    go_wp2_with fail
    refine (HG.out _).mono ?_
    rintro e w2 ⟨rfl, hb⟩
    have HW := Lib.hid (HW.out.trans (hb.mono HW.out.size))
    clear hb
    go_wp2
    go_ret2
    exact ⟨rfl, HW.out⟩
  | true =>
    have HIn := Lib.hid (HI.out.1 rfl).1
    go_enter Try.func35, Try.ntmps35
    go_wp2_with fail
    refine (HG.out _).mono ?_
    rintro e w2 ⟨rfl, hb⟩
    obtain ⟨c0, c1, c2, c3⟩ := geo_cells hb
    have HW := Lib.hid (HW.out.trans (hb.mono HW.out.size))
    clear hb
    go_wp2_with fail
    refine (HD.out HIn.out _).mono ?_
    rintro e w3 ⟨rfl, hb⟩
    have HW := Lib.hid (HW.out.trans (hb.mono HW.out.size))
    clear hb
    go_wp2
    go_ret2
    exact ⟨rfl, HW.out⟩
set_option maxRecDepth 100000 in
theorem gBack_any (g : Geo) (w : World) :
    Calls Try.prog 37 #[g.v] w fun e w' => e = .returned (.int .i64 (if g.good = true then g.b - 1 else 0)) ∧ Below w.heap.size w w' := by
  have HG := Lib.hid (fun W => ggood_any g W)
  have HI := Lib.hid (Geo.good_iff g)
  generalize hgd : g.good = gd at *
  obtain ⟨b, n, c, k⟩ := g
  clear hgd
  have HW := Lib.hid ((Below.refl w.heap.size w).alloc (Nat.le_refl _) (.cells #[.int .i64 b, .int .i64 n, .int .i64 c, .int .i64 k] 45))
  simp only [Geo.v] at *
  cases gd with
  | false =>
    go_enter Try.func37, Try.ntmps37
    go_wp2_with fail
    refine (HG.out _).mono ?_
    rintro e w2 ⟨rfl, hb⟩
    have HW := Lib.hid (HW.out.trans (hb.mono HW.out.size))
    clear hb
    go_wp2
    go_ret
    exact ⟨rfl, HW.out⟩
  | true =>
    have hIn := (HI.out.1 rfl).1
    have e1 : IntKind.i64.wrap (b - 1) = b - 1 := IntWalk.i64_in _ (by have := hIn.1; have := hIn.2.1; simp only at *; omega)
    clear hIn
    go_enter Try.func37, Try.ntmps37
    go_wp2_with fail
    refine (HG.out _).mono ?_
    rintro e w2 ⟨rfl, hb⟩
    obtain ⟨c0, c1, c2, c3⟩ := geo_cells hb
    have HW := Lib.hid (HW.out.trans (hb.mono HW.out.size))
    clear hb
    go_wp2
    go_ret
    exact ⟨rfl, HW.out⟩
theorem gPlain_any (n : Int) (w : World) :
    Calls Try.prog 38 #[.int .i64 n] w fun e w' => e = .returned (Geo.v ⟨n, 10, 1, 20⟩) ∧ Below w.heap.size w w' := by
  go_enter Try.func38, Try.ntmps38
  go_wp2
  refine bodyPost_ret (v := Geo.v ⟨n, 10, 1, 20⟩) ?_ rfl ⟨rfl, (Below.refl w.heap.size w).alloc (Nat.le_refl _) _⟩
  unfold results
  rw [show Try.f38.results = #[.cell 2 45] from rfl]
  go_simp
  rfl
end Go.Proofs.Ytdadplpibdjjbaa
