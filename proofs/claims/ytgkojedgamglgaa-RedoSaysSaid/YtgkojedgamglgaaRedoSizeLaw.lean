/- The walk of the statement RedoSize; a record that came in, opened. Condition: the slice can be read. -/
import Derived.Test.YtgkojedgamglgaaRedoSizeW
namespace Go.Proofs.Ytgkojedgamglgaa
open Go.ChangeShapes Go.WideShapes Go.ChangeAt Go.RowKit Go.Deep
set_option linter.unusedVariables false
set_option linter.unusedSimpArgs false
section
variable {H : Type} {enc : TypeId × Value → H} {P : Program} {w : World} {base : Nat} {spare : Nat → Bool} {held : Bool}
theorem open_rec {t e : TypeId} {e0 e1 f0 f1 : Field} {r : Reach} {b0 : Nat} {v : Value} {d : DataW H} {p : List MemPlace} (hs : P.underlying t = some (.struct #[e0, e1])) (hone0 : oneCellFields P #[e0, e1] = true) (hC0 : P.cellsOf t = 2)
    (u : P.underlying e0.type = some (.int .u64)) (ht : P.underlying e1.type = some (.slice e)) (he : P.underlying e = some (.struct #[f0, f1])) (hone : oneCellFields P #[f0, f1] = true) (hC : P.cellsOf e = 2)
    (u0 : P.underlying f0.type = some (.int .i64)) (u1 : P.underlying f1.type = some (.int .u64))
    (hv : Value.okWide P w r b0 t v) (h : DataW.Trod enc P w base spare held t v d p) :
    ∃ (q : BitVec 64) (a : Option Addr) (ws : List (Int × BitVec 64)) (c : Nat), v = .agg #[U q, .slice a ws.length c] ∧ (RdW w a ws ∧ ∀ x ∈ ws, -9223372036854775808 ≤ x.1 ∧ x.1 ≤ 9223372036854775807) ∧ ws.length ≤ c ∧ c ≤ maxLen := by
  obtain ⟨v0, v1, y0, y1, n, rfl, rfl, rfl, h0, h1⟩ := Go.Joins.open_agg2 hs hone0 hC0 hv h
  obtain ⟨z, e0_, _, w0⟩ := DataW.trod_int u h0
  obtain rfl : v0 = .int .u64 z := by simpa using e0_
  obtain ⟨q, hq⟩ := word_of w0
  obtain ⟨a, l, c, hv1⟩ := Go.Joins.slice_form ht h1
  obtain rfl : v1 = .slice a l c := by simpa using hv1
  obtain ⟨a', ws, c', hv', hr, hl, hm⟩ := open_writes_of ht he hone hC u0 u1 h1
  exact ⟨q, a', ws, c', by rw [hq, hv'], hr, hl, hm⟩
end
set_option maxRecDepth 100000 in
set_option maxHeartbeats 4000000 in
theorem RedoSize_walk (num : BitVec 64) (ws : List (Int × BitVec 64)) (L : Option Addr) (lc : Nat) (w : World)
    (hl : RdW w L ws ∧ ∀ x ∈ ws, -9223372036854775808 ≤ x.1 ∧ x.1 ≤ 9223372036854775807) (hlc : ws.length ≤ lc) (hlm : lc ≤ maxLen) :
    Calls Try.prog 3 #[.agg #[U num, .slice L ws.length lc]] w fun e w' => e = .returned (.bool true) ∧ Below w.heap.size w w' := by
  have HL := Lib.hid hl.1
  clear hl
  unfold maxLen at hlm
  have HX := Lib.hid ((Below.refl w.heap.size w).alloc (Nat.le_refl _) (.cells #[U num, .slice L ws.length lc] 25))
  have HC := Lib.hid (fun (W : World) (h : Below (w.alloc (.cells #[U num, .slice L ws.length lc] 25)).heap.size (w.alloc (.cells #[U num, .slice L ws.length lc] 25)) W) => two_cells h)
  have HB := Lib.hid (Below.refl (w.alloc (.cells #[U num, .slice L ws.length lc] 25)).heap.size (w.alloc (.cells #[U num, .slice L ws.length lc] 25)))
  have KA := Lib.hid (fun W => Eng.isTrue_ok (P := Try.prog) (f := 22) (by kernel_rfl) (by kernel_rfl) (lf := 5000) (d := 200) (by kernel_rfl) W)
  by_cases h100 : 100 < ws.length
  · go_enter Try.func3, Try.ntmps3
    go_wp2_with fail
    refine (KA.out _).mono ?_
    rintro e w1 ⟨rfl, hb⟩
    have HB := Lib.hid (HB.out.trans (hb.mono HB.out.size))
    clear hb
    obtain ⟨c0, c1⟩ := HC.out _ HB.out
    go_wp2
    go_ret
    exact ⟨rfl, HX.out.trans (HB.out.mono HX.out.size)⟩
  have KS := Lib.hid (fun (W : World) h => rSize_any num ws L lc W h (by omega))
  have KP := Lib.hid (fun (W : World) h => rPut_any num ws L lc W h (by omega))
  have HR := Lib.hid (fun (W : World) (h : Below (w.alloc (.cells #[U num, .slice L ws.length lc] 25)).heap.size (w.alloc (.cells #[U num, .slice L ws.length lc] 25)) W) => HL.out.below (HX.out.trans (h.mono HX.out.size)))
  have e1 : IntKind.i64.wrap (2 * (ws.length : Int)) = 2 * (ws.length : Int) := IntWalk.i64_in _ (by omega)
  have e2 : IntKind.i64.wrap (3 + 2 * (ws.length : Int)) = 3 + 2 * (ws.length : Int) := IntWalk.i64_in _ (by omega)
  have h1i : ¬ 100 < (ws.length : Int) := by omega
  by_cases hz : num = 0#64 ∨ ws.any badW = true
  · have hre : recW num ws = [] := by unfold recW; rw [if_pos hz]
    rw [hre] at KS KP
    clear hre hz
    go_enter Try.func3, Try.ntmps3
    go_wp2_with fail
    refine (KA.out _).mono ?_
    rintro e w1 ⟨rfl, hb⟩
    have HB := Lib.hid (HB.out.trans (hb.mono HB.out.size))
    clear hb
    obtain ⟨c0, c1⟩ := HC.out _ HB.out
    go_wp2_with fail
    refine (KS.out _ (HR.out _ HB.out)).mono ?_
    rintro e w2 ⟨rfl, hb⟩
    have HB := Lib.hid (HB.out.trans (hb.mono HB.out.size))
    clear hb c0 c1
    obtain ⟨c0, c1⟩ := HC.out _ HB.out
    go_wp2_with fail
    refine (KP.out _ (HR.out _ HB.out)).mono ?_
    rintro e w3 ⟨⟨B, d, rfl, ho⟩, hb⟩
    have HB := Lib.hid (HB.out.trans (hb.mono HB.out.size))
    clear hb ho c0 c1
    obtain ⟨c0, c1⟩ := HC.out _ HB.out
    go_wp2_with fail
    go_quiet (fail)
    go_wp2
    go_ret
    exact ⟨rfl, HX.out.trans ((HB.out.trans (Go.Joins.below_draws _ _ _)).mono HX.out.size)⟩
  · have hre : recW num ws = num :: BitVec.ofNat 64 ws.length :: (flatW ws ++ [sealOf (recL num ws)]) := by unfold recW; rw [if_neg hz]; rfl
    have hrl : (recW num ws).length = 3 + 2 * ws.length := by
      rw [hre]
      simp only [List.length_cons, List.length_append, flatW_len, List.length_nil]
      omega
    rw [hrl] at KS KP
    rw [hre] at KP
    generalize flatW ws ++ [sealOf (recL num ws)] = rest at *
    clear hre hrl hz
    have hne : ((3 + 2 * (ws.length : Int)) == 0) = false := by rw [beq_eq_false_iff_ne]; omega
    have hlt0 : (0 : Int) < 3 + 2 * (ws.length : Int) := by omega
    have hlt1 : (1 : Int) < 3 + 2 * (ws.length : Int) := by omega
    go_enter Try.func3, Try.ntmps3
    go_wp2_with fail
    refine (KA.out _).mono ?_
    rintro e w1 ⟨rfl, hb⟩
    have HB := Lib.hid (HB.out.trans (hb.mono HB.out.size))
    clear hb
    obtain ⟨c0, c1⟩ := HC.out _ HB.out
    go_wp2_with fail
    refine (KS.out _ (HR.out _ HB.out)).mono ?_
    rintro e w2 ⟨rfl, hb⟩
    have HB := Lib.hid (HB.out.trans (hb.mono HB.out.size))
    clear hb c0 c1
    obtain ⟨c0, c1⟩ := HC.out _ HB.out
    go_wp2_with fail
    refine (KP.out _ (HR.out _ HB.out)).mono ?_
    rintro e w3 ⟨⟨B, d, rfl, ho⟩, hb⟩
    have HB := Lib.hid (HB.out.trans (hb.mono HB.out.size))
    obtain ⟨g, rfl, _, _⟩ := ho.form (by simp)
    have y0 := ho.cellAt 0 (by simp)
    have y1 := ho.cellAt 1 (by simp)
    simp only [List.getElem_cons_succ, List.getElem_cons_zero] at y0 y1
    clear hb ho c0 c1
    obtain ⟨c0, c1⟩ := HC.out _ HB.out
    go_wp2_with fail
    go_quiet (fail)
    go_wp2
    go_ret
    exact ⟨rfl, HX.out.trans ((HB.out.trans (Go.Joins.below_draws _ _ _)).mono HX.out.size)⟩
end Go.Proofs.Ytgkojedgamglgaa
