/- Chapter 6: the walks of package geom's function Data. -/
import Derived.Test.YtgkojedgamglgaaGeom
namespace Go.Proofs.Ytgkojedgamglgaa
open Go.RowKit
set_option linter.unusedVariables false
set_option linter.unusedSimpArgs false

set_option maxRecDepth 100000 in
theorem gData_any (g : Geo) (w : World) :
    Calls Try.prog 37 #[g.v] w fun e w' => e = .returned (.tuple #[.int .i64 (if g.good = true then g.df else 0), .int .i64 (if g.good = true then g.dn else 0)]) ∧ Below w.heap.size w w' := by
  have HG := Lib.hid (fun W => ggood_any g W)
  have HD := Lib.hid (fun h W => gdata_any g h W)
  have HI := Lib.hid (Geo.good_iff g)
  generalize hgd : g.good = gd at *
  generalize hs1 : g.df = s1 at *
  generalize hs2 : g.dn = s2 at *
  obtain ⟨b, n, c, k⟩ := g
  clear hgd hs1 hs2
  have HW := Lib.hid ((Below.refl w.heap.size w).alloc (Nat.le_refl _) (.cells #[.int .i64 b, .int .i64 n, .int .i64 c, .int .i64 k] 33))
  simp only [Geo.v] at *
  cases gd with
  | false =>
    go_enter Try.func37, Try.ntmps37
    go_wp2_with fail
    refine (HG.out _).mono ?_
    rintro e w2 ⟨rfl, hb⟩
    have HW := Lib.hid (HW.out.trans (hb.mono HW.out.size))
    clear hb
    go_wp2
    go_ret2
    exact ⟨rfl, HW.out⟩
  | true =>
    have HIn := Lib.hid (HI.out.1 rfl).1
    go_enter Try.func37, Try.ntmps37
    go_wp2_with fail
    refine (HG.out _).mono ?_
    rintro e w2 ⟨rfl, hb⟩
    obtain ⟨c0, c1, c2, c3⟩ := geo_cells hb
    have HW := Lib.hid (HW.out.trans (hb.mono HW.out.size))
    clear hb
    go_wp2_with fail
    refine (HD.out HIn.out _).mono ?_
    rintro e w3 ⟨rfl, hb⟩
    have HW := Lib.hid (HW.out.trans (hb.mono HW.out.size))
    clear hb
    go_wp2
    go_ret2
    exact ⟨rfl, HW.out⟩
end Go.Proofs.Ytgkojedgamglgaa
