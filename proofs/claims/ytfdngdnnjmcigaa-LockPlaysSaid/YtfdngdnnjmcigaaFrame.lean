/- What each statement's proof is told of its arguments: slices of words, of bytes, of ints, and numbers, opened. -/
import Derived.Test.YtfdngdnnjmcigaaWords
import Derived.ProofKit
import Derived.OpenShut
import Derived.ShutString
import Derived.ChangeOld
import Derived.Below
namespace Go.Proofs.Ytfdngdnnjmcigaa
open Go.ChangeShapes Go.WideShapes Go.ChangeAt Go.RowKit

theorem own : ownKnob Try.prog.godebug = none := by kernel_rfl
theorem laidOut : laidOutB Try.prog = true := by kernel_rfl
theorem bd_int {a : Int} (h : (Lit.int .i64 a).wf = true) : -9223372036854775808 ≤ a ∧ a ≤ 9223372036854775807 := by
  simp [Lit.wf, IntKind.min, IntKind.max, IntKind.bits, IntKind.signed] at h
  omega
theorem word_of {a : Int} (h : (Lit.int .u64 a).wf = true) : ∃ x : BitVec 64, Value.int .u64 a = U x := by
  simp [Lit.wf, IntKind.min, IntKind.max, IntKind.bits, IntKind.signed] at h
  exact ⟨BitVec.ofInt 64 a, U_lit a (by omega) (by omega)⟩
section
variable {H : Type} {enc : TypeId × Value → H} {P : Program} {w : World} {base : Nat} {spare : Nat → Bool} {held : Bool}
/-- A slice of integers that came in: its cells' numbers, each fitting its kind. -/
theorem open_row {t e : TypeId} {k : IntKind} {r : Reach} {b0 : Nat} {v : Value} {d : DataW H} {p : List MemPlace} (ht : P.underlying t = some (.slice e)) (he : P.underlying e = some (.int k)) (hC : P.cellsOf e = 1)
    (hv : Value.okWide P w r b0 t v) (h : DataW.Trod enc P w base spare held t v d p) :
    ∃ (a : Option Addr) (n c : Nat) (zs : List Int), v = .slice a n c ∧ n ≤ c ∧ c ≤ maxLen ∧ zs.length = n ∧
      (zs = [] ∨ ∃ b off, a = some ⟨b, off, none⟩ ∧ ∀ i, (h : i < zs.length) → w.cell? ⟨b, off + i, none⟩ = some (.int k zs[i])) ∧ (∀ n ∈ zs, (Lit.int k n).wf = true) ∧ (a = none → n = 0 ∧ c = 0) := by
  obtain ⟨a, n, c, rfl⟩ := okWide_slice ht hv
  obtain ⟨fuel, hf⟩ := h
  rcases open_ints ht he hC hf with ⟨hcs, _⟩ | ⟨x, l, c', zs, hcs, _, hl, hm, hz, _, hcell, hwz⟩
  · simp [Value.cells] at hcs
    obtain ⟨rfl, rfl, rfl⟩ := hcs
    exact ⟨none, 0, 0, [], rfl, by omega, by simp [maxLen], rfl, .inl rfl, by simp, fun _ => ⟨rfl, rfl⟩⟩
  · simp [Value.cells] at hcs
    obtain ⟨rfl, rfl, rfl⟩ := hcs
    have hz' : n ≤ zs.length := by rw [hz]; split <;> omega
    refine ⟨some x, n, c, zs.take n, rfl, hl, hm, by simp; omega, ?_, fun m hm => hwz m (List.mem_of_mem_take hm), fun h => by cases h⟩
    by_cases hn : n = 0
    · left; simp [hn]
    · right
      obtain ⟨b, off, spot⟩ := x
      have hc := hcell 0 (by omega)
      have hspot : spot = none := by simpa [Addr.add] using World.cell?_spot hc
      subst hspot
      refine ⟨b, off, rfl, fun i hi => ?_⟩
      have hi' : i < zs.length := by simp at hi; omega
      have := hcell i hi'
      rw [Addr.add_lit] at this
      rw [this, List.getElem_take]
      simp [hi']
/-- A slice of words. -/
theorem open_words {t e : TypeId} {r : Reach} {b0 : Nat} {v : Value} {d : DataW H} {p : List MemPlace} (ht : P.underlying t = some (.slice e)) (he : P.underlying e = some (.int .u64)) (hC : P.cellsOf e = 1)
    (hv : Value.okWide P w r b0 t v) (h : DataW.Trod enc P w base spare held t v d p) :
    ∃ (a : Option Addr) (xs : List (BitVec 64)) (c : Nat), v = .slice a xs.length c ∧ RdU w a xs ∧ xs.length ≤ c ∧ c ≤ maxLen ∧ (a = none → xs = [] ∧ c = 0) := by
  obtain ⟨a, n, c, zs, rfl, hn, hm, hl, hc, hw, hnil⟩ := open_row ht he hC hv h
  refine ⟨a, zs.map (BitVec.ofInt 64), c, by rw [List.length_map, hl], ?_, by rw [List.length_map, hl]; exact hn, hm, fun h => ?_⟩
  · rcases hc with h0 | ⟨b, off, hA, hcell⟩
    · left; rw [h0]; rfl
    · refine .inr ⟨b, off, hA, fun k hk => ?_⟩
      have hk' : k < zs.length := by simpa using hk
      rw [hcell k hk']
      have hwf := hw zs[k] (List.getElem_mem hk')
      simp [Lit.wf, IntKind.min, IntKind.max, IntKind.bits, IntKind.signed] at hwf
      rw [U_lit _ (by omega) (by omega)]
      simp
  · obtain ⟨h1, h2⟩ := hnil h
    exact ⟨by rw [List.map_eq_nil_iff]; exact List.eq_nil_of_length_eq_zero (by omega), h2⟩
end
end Go.Proofs.Ytfdngdnnjmcigaa
