/- What each statement's proof is told of its arguments: slices of bytes and of ints. -/
import Derived.Test.YtfdngdnnjmcigaaFrame
import Derived.Test.YtfdngdnnjmcigaaGen
namespace Go.Proofs.Ytfdngdnnjmcigaa
open Go.ChangeShapes Go.WideShapes Go.ChangeAt Go.RowKit
/-- An int's value. -/
abbrev I64 (x : Int) : Value := .int .i64 x
theorem byte_of {a : Int} (h : (Lit.int .u8 a).wf = true) : Value.int .u8 a = Y (BitVec.ofInt 8 a) := by
  simp [Lit.wf, IntKind.min, IntKind.max, IntKind.bits, IntKind.signed] at h
  exact Y_lit a (by omega) (by omega)
section
variable {H : Type} {enc : TypeId × Value → H} {P : Program} {w : World} {base : Nat} {spare : Nat → Bool} {held : Bool}
/-- A slice of bytes. -/
theorem open_bytes {t e : TypeId} {r : Reach} {b0 : Nat} {v : Value} {d : DataW H} {p : List MemPlace} (ht : P.underlying t = some (.slice e)) (he : P.underlying e = some (.int .u8)) (hC : P.cellsOf e = 1)
    (hv : Value.okWide P w r b0 t v) (h : DataW.Trod enc P w base spare held t v d p) :
    ∃ (a : Option Addr) (xs : List (BitVec 8)) (c : Nat), v = .slice a xs.length c ∧ RdF Y w a xs ∧ xs.length ≤ c ∧ c ≤ maxLen ∧ (a = none → xs = [] ∧ c = 0) := by
  obtain ⟨a, n, c, zs, rfl, hn, hm, hl, hc, hw, hnil⟩ := open_row ht he hC hv h
  refine ⟨a, zs.map (BitVec.ofInt 8), c, by rw [List.length_map, hl], ?_, by rw [List.length_map, hl]; exact hn, hm, fun h => ?_⟩
  · rcases hc with h0 | ⟨b, off, hA, hcell⟩
    · left; rw [h0]; rfl
    · refine .inr ⟨b, off, hA, fun k hk => ?_⟩
      have hk' : k < zs.length := by simpa using hk
      rw [hcell k hk']
      rw [byte_of (hw zs[k] (List.getElem_mem hk'))]
      simp
  · obtain ⟨h1, h2⟩ := hnil h
    exact ⟨by rw [List.map_eq_nil_iff]; exact List.eq_nil_of_length_eq_zero (by omega), h2⟩
/-- A slice of ints. -/
theorem open_ints_in {t e : TypeId} {r : Reach} {b0 : Nat} {v : Value} {d : DataW H} {p : List MemPlace} (ht : P.underlying t = some (.slice e)) (he : P.underlying e = some (.int .i64)) (hC : P.cellsOf e = 1)
    (hv : Value.okWide P w r b0 t v) (h : DataW.Trod enc P w base spare held t v d p) :
    ∃ (a : Option Addr) (xs : List Int) (c : Nat), v = .slice a xs.length c ∧ (RdF I64 w a xs ∧ ∀ x ∈ xs, -9223372036854775808 ≤ x ∧ x ≤ 9223372036854775807) ∧ xs.length ≤ c ∧ c ≤ maxLen ∧ (a = none → xs = [] ∧ c = 0) := by
  obtain ⟨a, n, c, zs, rfl, hn, hm, hl, hc, hw, hnil⟩ := open_row ht he hC hv h
  subst hl
  refine ⟨a, zs, c, rfl, ⟨?_, fun x hx => bd_int (hw x hx)⟩, hn, hm, fun h => ?_⟩
  · rcases hc with h0 | ⟨b, off, hA, hcell⟩
    · exact .inl h0
    · exact .inr ⟨b, off, hA, hcell⟩
  · obtain ⟨h1, h2⟩ := hnil h
    exact ⟨List.eq_nil_of_length_eq_zero h1, h2⟩
end
end Go.Proofs.Ytfdngdnnjmcigaa
