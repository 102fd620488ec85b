/- What a statement of chapter 16 is told of a slice of strings that came in. -/
import Derived.Test.YtfdngdnnjmcigaaDoorPath1
import Derived.ProofKit
import Derived.OpenShut
import Derived.SliceStrings
import Derived.ChangeOld
namespace Go.Proofs.YtfdngdnnjmcigaaDoor
open Go.ChangeShapes Go.WideShapes Go.ChangeAt Go.RowKit
theorem laidOut : laidOutB Tryd.prog = true := by kernel_rfl
section
variable {H : Type} {enc : TypeId × Value → H} {P : Program} {w : World} {base : Nat} {spare : Nat → Bool} {held : Bool}
theorem open_strS {t e : TypeId} {r : Reach} {b0 : Nat} {v : Value} {d : DataW H} {p : List MemPlace} (ht : P.underlying t = some (.slice e)) (he : P.underlying e = some .string) (hC : P.cellsOf e = 1)
    (hv : Value.okWide P w r b0 t v) (h : DataW.Trod enc P w base spare held t v d p) :
    ∃ (a : Option Addr) (l : List ByteArray) (c : Nat), v = .slice a l.length c ∧ RdS w a l ∧ l.length ≤ c ∧ c ≤ maxLen := by
  obtain ⟨a, n, c, rfl⟩ := okWide_slice ht hv
  obtain ⟨fuel, hf⟩ := h
  rcases open_strings ht he hC hf with ⟨hcs, _⟩ | ⟨x, len, c', ss, hcs, _, hl, hm, hz, _, hcell, _⟩
  · simp [Value.cells] at hcs
    obtain ⟨rfl, rfl, rfl⟩ := hcs
    exact ⟨none, [], 0, rfl, .inl rfl, by simp, by simp [maxLen]⟩
  · simp [Value.cells] at hcs
    obtain ⟨rfl, rfl, rfl⟩ := hcs
    have hz' : n ≤ ss.length := by rw [hz]; split <;> omega
    have hln : (ss.take n).length = n := by rw [List.length_take]; omega
    refine ⟨some x, ss.take n, c, by rw [hln], ?_, by rw [hln]; exact hl, hm⟩
    by_cases hn : n = 0
    · left; simp [hn]
    · right
      obtain ⟨b, off, spot⟩ := x
      have hc := hcell 0 (by omega)
      have hspot : spot = none := by simpa [Addr.add] using World.cell?_spot hc
      subst hspot
      refine ⟨b, off, rfl, World.block_lt_of_cell? _ _ hc, fun j y hj => ?_⟩
      have hjn : j < n := by
        rcases Nat.lt_or_ge j n with h | h
        · exact h
        · rw [List.getElem?_eq_none (by omega)] at hj; simp at hj
      have h1 := hcell j (by omega)
      rw [Addr.add_lit] at h1
      rw [List.getElem?_take, if_pos hjn] at hj
      rw [h1, List.getD_eq_getElem?_getD, hj]; rfl
end
end Go.Proofs.YtfdngdnnjmcigaaDoor
