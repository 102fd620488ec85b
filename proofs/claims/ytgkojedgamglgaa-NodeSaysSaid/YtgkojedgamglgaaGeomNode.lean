/- Chapter 6: the walk of geom.Node. -/
import Derived.Test.YtgkojedgamglgaaGeomData
namespace Go.Proofs.Ytgkojedgamglgaa
open Go.RowKit
set_option linter.unusedVariables false
set_option linter.unusedSimpArgs false
/-- Where a node stands. -/
def Geo.nd (g : Geo) (m : Int) : Int := if g.good = true ∧ 1 ≤ m ∧ m ≤ g.n then g.fr + g.bn + m - 1 else 0
set_option maxRecDepth 100000 in
theorem gNode_any (g : Geo) (m : Int) (w : World) :
    Calls Try.prog 118 #[g.v, .int .i64 m] w fun e w' => e = .returned (.int .i64 (g.nd m)) ∧ Below w.heap.size w w' := by
  have HG := Lib.hid (fun W => ggood_any g W)
  by_cases hg : g.good = true
  · obtain ⟨hIn, hdn⟩ := (Geo.good_iff g).1 hg
    have HD := Lib.hid (fun W => gbits_any g hIn W)
    obtain ⟨p1, p2⟩ := hIn.prod
    have hn1 := hIn.2.2.1
    have hn2 := hIn.2.2.2.1
    have hb1 := hIn.1
    have hb2 := hIn.2.1
    rw [hg] at HG
    by_cases hm : 1 ≤ m ∧ m ≤ g.n
    · have hnd : g.nd m = g.fr + g.bn + m - 1 := by unfold Geo.nd; rw [if_pos ⟨hg, hm⟩]
      have e1 : IntKind.i64.wrap (g.fr + g.bn) = g.fr + g.bn := IntWalk.i64_in _ (by unfold Geo.fr Geo.bn; omega)
      have e2 : IntKind.i64.wrap (g.fr + g.bn + m) = g.fr + g.bn + m := IntWalk.i64_in _ (by unfold Geo.fr Geo.bn; omega)
      have e3 : IntKind.i64.wrap (g.fr + g.bn + m - 1) = g.fr + g.bn + m - 1 := IntWalk.i64_in _ (by unfold Geo.fr Geo.bn; omega)
      rw [hnd]
      generalize g.fr = fr at *
      generalize g.bn = bn at *
      obtain ⟨b, n, c, k⟩ := g
      clear hg hIn hdn hnd
      simp only [Geo.v] at *
      have HW := Lib.hid ((Below.refl w.heap.size w).alloc (Nat.le_refl _) (.cells #[.int .i64 b, .int .i64 n, .int .i64 c, .int .i64 k] 33))
      have hmb : (decide (1 ≤ m) && decide (m ≤ n)) = true := by simp [hm]
      go_enter Try.func118, Try.ntmps118
      go_wp2_with fail
      refine (HG.out _).mono ?_
      rintro e w2 ⟨rfl, hb⟩
      obtain ⟨c0, c1, c2, c3⟩ := geo_cells hb
      have HW := Lib.hid (HW.out.trans (hb.mono HW.out.size))
      clear hb
      go_wp2_with fail
      refine (gin_any _ _ _ _).mono ?_
      rintro e w3 ⟨rfl, rfl⟩
      rw [hmb]
      go_wp2_with fail
      refine (HD.out _).mono ?_
      rintro e w3 ⟨rfl, hb⟩
      have HW := Lib.hid (HW.out.trans (hb.mono HW.out.size))
      clear hb
      go_wp2
      go_ret
      exact ⟨rfl, HW.out⟩
    · have hnd : g.nd m = 0 := by unfold Geo.nd; rw [if_neg (fun h => hm h.2)]
      rw [hnd]
      obtain ⟨b, n, c, k⟩ := g
      clear hg hIn hdn hnd HD
      simp only [Geo.v] at *
      have HW := Lib.hid ((Below.refl w.heap.size w).alloc (Nat.le_refl _) (.cells #[.int .i64 b, .int .i64 n, .int .i64 c, .int .i64 k] 33))
      have hmb : (decide (1 ≤ m) && decide (m ≤ n)) = false := by simpa using hm
      go_enter Try.func118, Try.ntmps118
      go_wp2_with fail
      refine (HG.out _).mono ?_
      rintro e w2 ⟨rfl, hb⟩
      obtain ⟨c0, c1, c2, c3⟩ := geo_cells hb
      have HW := Lib.hid (HW.out.trans (hb.mono HW.out.size))
      clear hb
      go_wp2_with fail
      refine (gin_any _ _ _ _).mono ?_
      rintro e w3 ⟨rfl, rfl⟩
      rw [hmb]
      go_wp2
      go_ret
      exact ⟨rfl, HW.out⟩
  · have hnd : g.nd m = 0 := by unfold Geo.nd; rw [if_neg (fun h => hg h.1)]
    have hg' : g.good = false := by simpa using hg
    rw [hg'] at HG
    rw [hnd]
    obtain ⟨b, n, c, k⟩ := g
    clear hg hg' hnd
    simp only [Geo.v] at *
    have HW := Lib.hid ((Below.refl w.heap.size w).alloc (Nat.le_refl _) (.cells #[.int .i64 b, .int .i64 n, .int .i64 c, .int .i64 k] 33))
    go_enter Try.func118, Try.ntmps118
    go_wp2_with fail
    refine (HG.out _).mono ?_
    rintro e w2 ⟨rfl, hb⟩
    have HW := Lib.hid (HW.out.trans (hb.mono HW.out.size))
    clear hb
    go_wp2
    go_ret
    exact ⟨rfl, HW.out⟩
end Go.Proofs.Ytgkojedgamglgaa
