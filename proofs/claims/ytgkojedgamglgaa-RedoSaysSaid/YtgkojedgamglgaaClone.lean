/- The contract of slices.Clone of words. Condition: the slice can be read. -/
import Derived.Test.YtgkojedgamglgaaGen
import Derived.Lib.Builder
namespace Go.Proofs.Ytgkojedgamglgaa
open Go.RowKit
set_option linter.unusedVariables false
set_option linter.unusedSimpArgs false
theorem CloneU_any (xs : List (BitVec 64)) (A : Option Addr) (c : Nat) (w : World) (hr : RdU w A xs) (hn : xs.length ≤ 8000) :
    Calls Try.prog 83 #[.slice A xs.length c] w fun e w' => (∃ B d, e = .returned (.slice B xs.length d) ∧ OwnU w' w.heap.size B xs d) ∧ Below w.heap.size w w' := by
  rcases A with _ | ad
  · have hx : xs = [] := by
      rcases hr with h | ⟨b, off, h, _⟩
      · exact h
      · cases h
    subst hx
    have h0 := fun (W : World) => Lib.run_eql_slice_nil (P := Try.prog) W 28 22 none 0 c 0 0 Try.underlying28
    go_enter Try.func83, Try.ntmps83
    go_wp2
    go_ret
    exact ⟨⟨none, 0, rfl, OwnU.nil_ _ _⟩, Below.refl _ _⟩
  · have h0 := fun (W : World) => Lib.run_eql_slice_nil (P := Try.prog) W 28 22 (some ad) xs.length c 0 0 Try.underlying28
    have HR := Lib.hid hr
    clear hr
    go_enter Try.func83, Try.ntmps83
    go_wp2_with (first | go_skip | (at_builtin; refine stop_ ?_))
    have ho1 := OwnU.lit w w.heap.size [] (Nat.le_refl _) (by decide)
    have hb1 : Below w.heap.size w (w.alloc (.cells #[] 22)) := (Below.refl _ _).alloc (Nat.le_refl _) _
    refine appU (.tmp 5) (.tmp 6) rfl rfl w.heap.size (some ⟨w.heap.size, 0, none⟩) [] 0 0 rfl rfl ho1 (some ad) xs _ c rfl rfl (HR.out.below hb1) (by simp; omega) (by simp) ?_
    intro B ys d w2 hys hown hg _
    obtain rfl : xs = ys := by simpa using hys.symm
    have HB := Lib.hid (below_app hb1 ho1 hg (by simp) (Nat.le_refl _))
    have HO := Lib.hid hown
    clear hys hg hown hb1 ho1 h0
    unfold Stop
    go_wp2
    go_ret
    exact ⟨⟨B, d, rfl, HO.out⟩, HB.out⟩
end Go.Proofs.Ytgkojedgamglgaa
