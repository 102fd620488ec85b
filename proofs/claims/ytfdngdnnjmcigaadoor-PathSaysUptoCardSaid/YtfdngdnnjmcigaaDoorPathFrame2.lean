/- A slice of strings that came in: what it reads as; and its bulk. Condition: none. -/
import Derived.Test.YtfdngdnnjmcigaaDoorRows
import Derived.Test.YtfdngdnnjmcigaaDoorPathFrame
namespace Go.Proofs.YtfdngdnnjmcigaaDoor
open Go.ChangeShapes Go.WideShapes Go.ChangeAt Go.RowKit
section
variable {H : Type} {enc : TypeId × Value → H} {P : Program} {w : World} {base : Nat} {spare : Nat → Bool} {held : Bool}
theorem open_strS_d {t e : TypeId} {r : Reach} {b0 : Nat} {v : Value} {d : DataW H} {p : List MemPlace} (ht : P.underlying t = some (.slice e)) (he : P.underlying e = some .string) (hC : P.cellsOf e = 1)
    (hv : Value.okWide P w r b0 t v) (h : DataW.Trod enc P w base spare held t v d p) :
    ∃ (a : Option Addr) (l : List ByteArray) (c : Nat), v = .slice a l.length c ∧ RdS w a l ∧ l.length ≤ c ∧ c ≤ maxLen ∧ (l = [] ∨ ∃ sp, d = .slice (strs l) sp) := by
  obtain ⟨a, n, c, rfl⟩ := okWide_slice ht hv
  obtain ⟨fuel, hf⟩ := h
  rcases open_strings ht he hC hf with ⟨hcs, _⟩ | ⟨x, len, c', ss, hcs, _, hl, hm, hz, hxd, hcell, _⟩
  · simp [Value.cells] at hcs
    obtain ⟨rfl, rfl, rfl⟩ := hcs
    exact ⟨none, [], 0, rfl, .inl rfl, by simp, by simp [maxLen], .inl rfl⟩
  · simp [Value.cells] at hcs
    obtain ⟨rfl, rfl, rfl⟩ := hcs
    have hz' : n ≤ ss.length := by rw [hz]; split <;> omega
    have hln : (ss.take n).length = n := by rw [List.length_take]; omega
    have hd : d = .slice (strs (ss.take n)) (strs (ss.drop n)) := by injection hxd
    refine ⟨some x, ss.take n, c, by rw [hln], ?_, by rw [hln]; exact hl, hm, .inr ⟨_, hd⟩⟩
    by_cases hn : n = 0
    · left; simp [hn]
    · right
      obtain ⟨b, off, spot⟩ := x
      have hc := hcell 0 (by omega)
      have hspot : spot = none := by simpa [Addr.add] using World.cell?_spot hc
      subst hspot
      refine ⟨b, off, rfl, World.block_lt_of_cell? _ _ hc, fun j y hj => ?_⟩
      have hjn : j < n := by
        rcases Nat.lt_or_ge j n with h | h
        · exact h
        · rw [List.getElem?_eq_none (by omega)] at hj; simp at hj
      have h1 := hcell j (by omega)
      rw [Addr.add_lit] at h1
      rw [List.getElem?_take, if_pos hjn] at hj
      rw [h1, List.getD_eq_getElem?_getD, hj]; rfl
theorem strs_bulk (l : List ByteArray) : (joinC l).length ≤ Rows.uptoBulkAll (strs (H := H) l) := by
  induction l with
  | nil => simp [joinC]
  | cons x l ih =>
    have e : (joinC (x :: l)).length = x.data.toList.length + 1 + (joinC l).length := by simp [joinC]; omega
    have e2 : Rows.uptoBulkAll (strs (H := H) (x :: l)) = x.data.toList.length + 1 + Rows.uptoBulkAll (strs (H := H) l) := by
      simp only [strs, List.map_cons, Rows.uptoBulkAll, Rows.uptoBulk]
    omega
theorem join_bulk {l : List ByteArray} {d0 d : DataW H} (hd : l = [] ∨ ∃ sp, d = .slice (strs l) sp) (hk : Rows.uptoSmall H [d0, d] = true) : (joinC l).length ≤ 1048576 := by
  rcases hd with rfl | ⟨sp, rfl⟩
  · simp [joinC]
  · have h := of_decide_eq_true hk
    simp only [Rows.uptoBulkAll, Rows.uptoBulk] at h
    have := strs_bulk (H := H) l
    omega
end
end Go.Proofs.YtfdngdnnjmcigaaDoor
