/- Chapter 6: the geometry's numbers, and the walks of package geom. -/
import Derived.Test.YtgkojedgamglgaaGen
namespace Go.Proofs.Ytgkojedgamglgaa
open Go.RowKit
set_option linter.unusedVariables false
set_option linter.unusedSimpArgs false

/-- A geometry. -/
structure Geo where
  b : Int
  n : Int
  c : Int
  k : Int
/-- Its value. -/
def Geo.v (g : Geo) : Value := .agg #[.int .i64 g.b, .int .i64 g.n, .int .i64 g.c, .int .i64 g.k]
/-- Each number in its bounds. -/
def Geo.In (g : Geo) : Prop := 64 ≤ g.b ∧ g.b ≤ 1024 ∧ 4 ≤ g.n ∧ g.n ≤ 64 ∧ 1 ≤ g.c ∧ g.c ≤ 8 ∧ 16 ≤ g.k ∧ g.k ≤ 110
/-- Where the bits begin, how many blocks they take; where the data begins, how many blocks it takes. -/
def Geo.fr (g : Geo) : Int := 1 + g.c * g.k
def Geo.bn (g : Geo) : Int := (g.b + 511) / 512
def Geo.df (g : Geo) : Int := g.fr + g.bn + 2 * g.n
def Geo.dn (g : Geo) : Int := g.b - 1 - g.df
theorem Geo.In.prod {g : Geo} (h : g.In) : 16 ≤ g.c * g.k ∧ g.c * g.k ≤ 880 := by
  obtain ⟨_, _, _, _, h1, h2, h3, h4⟩ := h
  constructor
  · have := Int.mul_le_mul h1 h3 (by omega) (by omega)
    omega
  · have := Int.mul_le_mul h2 h4 (by omega) (by omega)
    omega
theorem gin_any (n a b : Int) (w : World) :
    Calls Try.prog 81 #[.int .i64 n, .int .i64 a, .int .i64 b] w fun e w' => e = .returned (.bool (decide (a ≤ n) && decide (n ≤ b))) ∧ w = w' := by
  by_cases h1 : a ≤ n
  · go_enter Try.func81, Try.ntmps81
    go_wp2
    go_ret
    exact ⟨by simp [h1], rfl⟩
  · go_enter Try.func81, Try.ntmps81
    go_wp2
    go_ret
    exact ⟨by rw [show decide (a ≤ n) = false from decide_eq_false (by omega)]; rfl, rfl⟩
theorem quiet_b {w w1 : World} (h : Below w.heap.size w w1) (n : Nat) : Below w.heap.size w (w1.drewN n) := ⟨h.os, h.tape, h.output, h.size, h.block⟩
set_option maxRecDepth 100000 in
theorem gbits_any (g : Geo) (h : g.In) (w : World) :
    Calls Try.prog 106 #[g.v] w fun e w' => e = .returned (.tuple #[.int .i64 g.fr, .int .i64 g.bn]) ∧ Below w.heap.size w w' := by
  obtain ⟨b, n, c, k⟩ := g
  obtain ⟨p1, p2⟩ := h.prod
  obtain ⟨h1, h2, h3, h4, h5, h6, h7, h8⟩ := h
  have hw := (Below.refl w.heap.size w)
  simp only [Geo.v, Geo.fr, Geo.bn] at *
  have e1 : IntKind.i64.wrap (c * k) = c * k := IntWalk.i64_in _ (by omega)
  have e2 : IntKind.i64.wrap (1 + c * k) = 1 + c * k := IntWalk.i64_in _ (by omega)
  have e3 : IntKind.i64.wrap (b + 512) = b + 512 := IntWalk.i64_in _ (by omega)
  have e4 : IntKind.i64.wrap (b + 512 - 1) = b + 511 := by rw [IntWalk.i64_in _ (by omega)]; omega
  have e5 : IntKind.i64.wrap ((b + 511) / 512) = (b + 511) / 512 := IntWalk.i64_in _ (by omega)
  have e6 : (b + 511).tdiv 512 = (b + 511) / 512 := Int.tdiv_eq_ediv_of_nonneg (by omega)
  go_enter Try.func106, Try.ntmps106
  go_wp2_with fail
  go_quiet (fail)
  go_wp2
  go_ret2
  exact ⟨rfl, quiet_b (hw.alloc (Nat.le_refl _) _) nq⟩
/-- The memory of a geometry that has been boxed reads as it did. -/
theorem geo_cells {w1 w2 : World} {T : TypeId} {b n c k : Int} (h : Below (w1.alloc (.cells #[.int .i64 b, .int .i64 n, .int .i64 c, .int .i64 k] T)).heap.size (w1.alloc (.cells #[.int .i64 b, .int .i64 n, .int .i64 c, .int .i64 k] T)) w2) :
    w2.cell? ⟨w1.heap.size, 0, none⟩ = some (.int .i64 b) ∧ w2.cell? ⟨w1.heap.size, 1, none⟩ = some (.int .i64 n) ∧ w2.cell? ⟨w1.heap.size, 2, none⟩ = some (.int .i64 c) ∧ w2.cell? ⟨w1.heap.size, 3, none⟩ = some (.int .i64 k) := by
  have hl : w1.heap.size < (w1.alloc (.cells #[.int .i64 b, .int .i64 n, .int .i64 c, .int .i64 k] T)).heap.size := by simp
  refine ⟨(h.cell (p := ⟨w1.heap.size, 0, none⟩) hl).trans ?_, (h.cell (p := ⟨w1.heap.size, 1, none⟩) hl).trans ?_, (h.cell (p := ⟨w1.heap.size, 2, none⟩) hl).trans ?_, (h.cell (p := ⟨w1.heap.size, 3, none⟩) hl).trans ?_⟩ <;> go_simp
set_option maxRecDepth 100000 in
theorem gdata_any (g : Geo) (h : g.In) (w : World) :
    Calls Try.prog 82 #[g.v] w fun e w' => e = .returned (.tuple #[.int .i64 g.df, .int .i64 g.dn]) ∧ Below w.heap.size w w' := by
  have HG := Lib.hid (fun W => gbits_any g h W)
  obtain ⟨b, n, c, k⟩ := g
  obtain ⟨p1, p2⟩ := h.prod
  obtain ⟨h1, h2, h3, h4, h5, h6, h7, h8⟩ := h
  have hw := (Below.refl w.heap.size w)
  simp only [Geo.v, Geo.df, Geo.dn, Geo.fr, Geo.bn] at *
  go_enter Try.func82, Try.ntmps82
  go_wp2_with fail
  refine (HG.out _).mono ?_
  rintro e w2 ⟨rfl, hb⟩
  obtain ⟨c0, c1, c2, c3⟩ := geo_cells hb
  have HW := Lib.hid ((hw.alloc (Nat.le_refl _) (.cells #[.int .i64 b, .int .i64 n, .int .i64 c, .int .i64 k] 33)).trans (hb.mono (by simp)))
  clear hb
  have e1 : IntKind.i64.wrap (1 + c * k + (b + 511) / 512) = 1 + c * k + (b + 511) / 512 := IntWalk.i64_in _ (by omega)
  have e2 : IntKind.i64.wrap (2 * n) = 2 * n := IntWalk.i64_in _ (by omega)
  have e3 : IntKind.i64.wrap (1 + c * k + (b + 511) / 512 + 2 * n) = 1 + c * k + (b + 511) / 512 + 2 * n := IntWalk.i64_in _ (by omega)
  have e4 : IntKind.i64.wrap (b - 1) = b - 1 := IntWalk.i64_in _ (by omega)
  have e5 : IntKind.i64.wrap (b - 1 - (1 + c * k + (b + 511) / 512 + 2 * n)) = b - 1 - (1 + c * k + (b + 511) / 512 + 2 * n) := IntWalk.i64_in _ (by omega)
  go_wp2_with fail
  go_quiet (fail)
  go_wp2
  go_ret2
  exact ⟨rfl, quiet_b HW.out nq⟩
/-- There may be so many of each. -/
def Geo.good (g : Geo) : Bool := (decide (64 ≤ g.b) && decide (g.b ≤ 1024)) && (decide (4 ≤ g.n) && decide (g.n ≤ 64)) && (decide (1 ≤ g.c) && decide (g.c ≤ 8)) && (decide (16 ≤ g.k) && decide (g.k ≤ 110)) && decide (1 ≤ g.dn)
theorem Geo.good_iff (g : Geo) : g.good = true ↔ g.In ∧ 1 ≤ g.dn := by
  simp [Geo.good, Geo.In, and_assoc]
set_option maxRecDepth 100000 in
theorem ggood_any (g : Geo) (w : World) :
    Calls Try.prog 36 #[g.v] w fun e w' => e = .returned (.bool g.good) ∧ Below w.heap.size w w' := by
  have HG := Lib.hid (fun h W => gdata_any g h W)
  obtain ⟨b, n, c, k⟩ := g
  have hw := (Below.refl w.heap.size w).alloc (Nat.le_refl _) (.cells #[.int .i64 b, .int .i64 n, .int .i64 c, .int .i64 k] 33)
  have HW := Lib.hid hw
  clear hw
  simp only [Geo.v] at *
  by_cases hB1 : (decide (64 ≤ b) && decide (b ≤ 1024)) = true
  · by_cases hB2 : (decide (4 ≤ n) && decide (n ≤ 64)) = true
    · by_cases hB3 : (decide (1 ≤ c) && decide (c ≤ 8)) = true
      · by_cases hB4 : (decide (16 ≤ k) && decide (k ≤ 110)) = true
        · have hI : (Geo.mk b n c k).In := by simp at hB1 hB2 hB3 hB4; exact ⟨hB1.1, hB1.2, hB2.1, hB2.2, hB3.1, hB3.2, hB4.1, hB4.2⟩
          have hG : (Geo.mk b n c k).good = decide (1 ≤ (Geo.mk b n c k).dn) := by simp only [Geo.good, hB1, hB2, hB3, hB4, Bool.true_and]
          go_enter Try.func36, Try.ntmps36
          go_wp2_with fail
          refine (gin_any _ _ _ _).mono ?_
          rintro e w2 ⟨rfl, rfl⟩
          rw [hB1]
          go_wp2_with fail
          refine (gin_any _ _ _ _).mono ?_
          rintro e w2 ⟨rfl, rfl⟩
          rw [hB2]
          go_wp2_with fail
          refine (gin_any _ _ _ _).mono ?_
          rintro e w2 ⟨rfl, rfl⟩
          rw [hB3]
          go_wp2_with fail
          refine (gin_any _ _ _ _).mono ?_
          rintro e w2 ⟨rfl, rfl⟩
          rw [hB4]
          go_wp2_with fail
          refine (HG.out hI _).mono ?_
          rintro e w2 ⟨rfl, hb⟩
          have HW := Lib.hid (HW.out.trans (hb.mono HW.out.size))
          clear hb
          go_wp2
          go_ret
          exact ⟨by rw [hG]; rfl, HW.out⟩
        · have hB4 : (decide (16 ≤ k) && decide (k ≤ 110)) = false := by simpa using hB4
          have hG : (Geo.mk b n c k).good = false := by simp only [Geo.good, hB1, hB2, hB3, hB4, Bool.and_false, Bool.false_and, Bool.true_and]
          go_enter Try.func36, Try.ntmps36
          go_wp2_with fail
          refine (gin_any _ _ _ _).mono ?_
          rintro e w2 ⟨rfl, rfl⟩
          rw [hB1]
          go_wp2_with fail
          refine (gin_any _ _ _ _).mono ?_
          rintro e w2 ⟨rfl, rfl⟩
          rw [hB2]
          go_wp2_with fail
          refine (gin_any _ _ _ _).mono ?_
          rintro e w2 ⟨rfl, rfl⟩
          rw [hB3]
          go_wp2_with fail
          refine (gin_any _ _ _ _).mono ?_
          rintro e w2 ⟨rfl, rfl⟩
          rw [hB4]
          go_wp2_with fail
          go_ret
          exact ⟨by rw [hG]; rfl, HW.out⟩
      · have hB3 : (decide (1 ≤ c) && decide (c ≤ 8)) = false := by simpa using hB3
        have hG : (Geo.mk b n c k).good = false := by simp only [Geo.good, hB1, hB2, hB3, Bool.and_false, Bool.false_and, Bool.true_and]
        go_enter Try.func36, Try.ntmps36
        go_wp2_with fail
        refine (gin_any _ _ _ _).mono ?_
        rintro e w2 ⟨rfl, rfl⟩
        rw [hB1]
        go_wp2_with fail
        refine (gin_any _ _ _ _).mono ?_
        rintro e w2 ⟨rfl, rfl⟩
        rw [hB2]
        go_wp2_with fail
        refine (gin_any _ _ _ _).mono ?_
        rintro e w2 ⟨rfl, rfl⟩
        rw [hB3]
        go_wp2_with fail
        go_ret
        exact ⟨by rw [hG]; rfl, HW.out⟩
    · have hB2 : (decide (4 ≤ n) && decide (n ≤ 64)) = false := by simpa using hB2
      have hG : (Geo.mk b n c k).good = false := by simp only [Geo.good, hB1, hB2, Bool.and_false, Bool.false_and, Bool.true_and]
      go_enter Try.func36, Try.ntmps36
      go_wp2_with fail
      refine (gin_any _ _ _ _).mono ?_
      rintro e w2 ⟨rfl, rfl⟩
      rw [hB1]
      go_wp2_with fail
      refine (gin_any _ _ _ _).mono ?_
      rintro e w2 ⟨rfl, rfl⟩
      rw [hB2]
      go_wp2_with fail
      go_ret
      exact ⟨by rw [hG]; rfl, HW.out⟩
  · have hB1 : (decide (64 ≤ b) && decide (b ≤ 1024)) = false := by simpa using hB1
    have hG : (Geo.mk b n c k).good = false := by simp only [Geo.good, hB1, Bool.and_false, Bool.false_and, Bool.true_and]
    go_enter Try.func36, Try.ntmps36
    go_wp2_with fail
    refine (gin_any _ _ _ _).mono ?_
    rintro e w2 ⟨rfl, rfl⟩
    rw [hB1]
    go_wp2_with fail
    go_ret
    exact ⟨by rw [hG]; rfl, HW.out⟩
end Go.Proofs.Ytgkojedgamglgaa
