/- Slices of acts (a number, a place, a word): what a statement's proof is told of them. -/
import Derived.Test.YtdadplpibdjjbaaWrites
namespace Go.Proofs.Ytdadplpibdjjbaa
open Go.ChangeShapes Go.WideShapes Go.ChangeAt Go.RowKit Go.Deep
set_option linter.unusedVariables false
set_option linter.unusedSimpArgs false
abbrev Ac := Int × Int × BitVec 64
/-- A slice whose cells read as these acts. -/
def RdA (w : World) (A : Option Addr) (ws : List Ac) : Prop :=
  ws = [] ∨ ∃ b off, A = some ⟨b, off, none⟩ ∧ ∀ k, (h : k < ws.length) → w.cell? ⟨b, off + k * 3, none⟩ = some (.int .i64 ws[k].1) ∧ w.cell? ⟨b, off + k * 3 + 1, none⟩ = some (.int .i64 ws[k].2.1) ∧ w.cell? ⟨b, off + k * 3 + 2, none⟩ = some (U ws[k].2.2)
theorem RdA.below {w w' : World} {A : Option Addr} {ws : List Ac} (h : RdA w A ws) (hb : Below w.heap.size w w') : RdA w' A ws := by
  rcases h with h | ⟨b, off, hA, hc⟩
  · exact .inl h
  · exact .inr ⟨b, off, hA, fun k hk => ⟨(hb.cell (p := ⟨b, off + k * 3, none⟩) (cell_lt (hc k hk).1)).trans (hc k hk).1, (hb.cell (p := ⟨b, off + k * 3 + 1, none⟩) (cell_lt (hc k hk).2.1)).trans (hc k hk).2.1, (hb.cell (p := ⟨b, off + k * 3 + 2, none⟩) (cell_lt (hc k hk).2.2)).trans (hc k hk).2.2⟩⟩
theorem RdA.at_ {w : World} {A : Option Addr} {ws : List Ac} (h : RdA w A ws) {k : Nat} (hk : k < ws.length) :
    ∃ b off, A = some ⟨b, off, none⟩ ∧ ∀ k, (h : k < ws.length) → w.cell? ⟨b, off + k * 3, none⟩ = some (.int .i64 ws[k].1) ∧ w.cell? ⟨b, off + k * 3 + 1, none⟩ = some (.int .i64 ws[k].2.1) ∧ w.cell? ⟨b, off + k * 3 + 2, none⟩ = some (U ws[k].2.2) := by
  rcases h with h | h
  · rw [h] at hk; simp at hk
  · exact h
/-- Its places are ints. -/
def AcFit (ws : List Ac) : Prop := ∀ x ∈ ws, (-9223372036854775808 ≤ x.1 ∧ x.1 ≤ 9223372036854775807) ∧ (-9223372036854775808 ≤ x.2.1 ∧ x.2.1 ≤ 9223372036854775807)
section
variable {H : Type} {enc : TypeId × Value → H} {P : Program} {w : World} {base : Nat} {spare : Nat → Bool} {held : Bool}
theorem open_acts {t e : TypeId} {f0 f1 f2 : Field} {r : Reach} {b0 : Nat} {v : Value} {d : DataW H} {p : List MemPlace} (ht : P.underlying t = some (.slice e)) (he : P.underlying e = some (.struct #[f0, f1, f2])) (hone : oneCellFields P #[f0, f1, f2] = true) (hC : P.cellsOf e = 3)
    (u0 : P.underlying f0.type = some (.int .i64)) (u1 : P.underlying f1.type = some (.int .i64)) (u2 : P.underlying f2.type = some (.int .u64))
    (hv : Value.okWide P w r b0 t v) (h : DataW.Trod enc P w base spare held t v d p) :
    ∃ (a : Option Addr) (ws : List Ac) (c : Nat), v = .slice a ws.length c ∧ (RdA w a ws ∧ AcFit ws) ∧ ws.length ≤ c ∧ c ≤ maxLen := by
  obtain ⟨a, n, c, rfl⟩ := okWide_slice ht hv
  obtain ⟨fuel, hf⟩ := h
  rcases open_slice ht hf with ⟨hcs, _⟩ | ⟨x, len, cap, m, n', D, Pl, hcs, hb, hl, hm, hmm, hx, hi⟩
  · simp [Value.cells] at hcs
    obtain ⟨rfl, rfl, rfl⟩ := hcs
    exact ⟨none, [], 0, rfl, ⟨.inl rfl, by simp [AcFit]⟩, by simp, by simp [maxLen]⟩
  · simp [Value.cells] at hcs
    obtain ⟨rfl, rfl, rfl⟩ := hcs
    have hnm : n ≤ m := by rw [hmm]; split <;> omega
    have key : ∀ i, i < n → ∃ (z z2 : Int) (q : BitVec 64), w.cell? (x.add (i * 3)) = some (.int .i64 z) ∧ w.cell? (x.add (i * 3 + 1)) = some (.int .i64 z2) ∧ w.cell? (x.add (i * 3 + 2)) = some (U q) ∧ (-9223372036854775808 ≤ z ∧ z ≤ 9223372036854775807) ∧ (-9223372036854775808 ≤ z2 ∧ z2 ≤ 9223372036854775807) := by
      intro i hin
      obtain ⟨cs', hc, ht'⟩ := hi i (by omega)
      rw [hC] at hc
      obtain ⟨ys, n2, _, hy, hlen, hyl, hg⟩ := DataW.trod_struct he ht'
      obtain ⟨_, hcl, hat⟩ := World.cells?_some hc
      obtain ⟨o0, k0⟩ := hone_of hone 0 f0 rfl
      obtain ⟨o1, k1⟩ := hone_of hone 1 f1 rfl
      obtain ⟨o2, k2⟩ := hone_of hone 2 f2 rfl
      rw [hC] at hlen
      match cs', hlen with
      | [c0, c1, c2], _ =>
        match ys, hyl with
        | [y0, y1, y2], _ =>
          have g0 := hg 0 f0 rfl
          have g1 := hg 1 f1 rfl
          have g2 := hg 2 f2 rfl
          rw [o0, k0] at g0
          rw [o1, k1] at g1
          rw [o2, k2] at g2
          have g0 : DataW.trod enc P w base spare held n2 f0.type [c0] = some y0 := g0
          have g1 : DataW.trod enc P w base spare held n2 f1.type [c1] = some y1 := g1
          have g2 : DataW.trod enc P w base spare held n2 f2.type [c2] = some y2 := g2
          obtain ⟨z, e0, _, w0⟩ := DataW.trod_int u0 g0
          obtain ⟨z2, e1, _, w1⟩ := DataW.trod_int u1 g1
          obtain ⟨q, e2, _, w2⟩ := DataW.trod_int u2 g2
          obtain rfl : c0 = .int .i64 z := by simpa using e0
          obtain rfl : c1 = .int .i64 z2 := by simpa using e1
          obtain rfl : c2 = .int .u64 q := by simpa using e2
          obtain ⟨q', hq⟩ := word_of w2
          have a0 := hat 0 (by omega)
          have a1 := hat 1 (by omega)
          have a2 := hat 2 (by omega)
          rw [Go.Deep.add_add, Nat.add_zero] at a0
          rw [Go.Deep.add_add] at a1 a2
          exact ⟨z, z2, q', a0, a1, by rw [a2, ← hq]; rfl, bd_int w0, bd_int w1⟩
    by_cases hn : n = 0
    · subst hn
      exact ⟨some x, [], c, rfl, ⟨.inl rfl, by simp [AcFit]⟩, by simp, hm⟩
    · obtain ⟨_, _, _, h0, _⟩ := key 0 (by omega)
      obtain ⟨b, off, spot⟩ := x
      have hspot : spot = none := by simpa [Addr.add] using World.cell?_spot h0
      subst hspot
      simp only [Addr.add_lit, ← Nat.add_assoc] at key
      let ws : List Ac := (List.range n).attach.map fun i => ((key i.1 (List.mem_range.1 i.2)).choose, (key i.1 (List.mem_range.1 i.2)).choose_spec.choose, (key i.1 (List.mem_range.1 i.2)).choose_spec.choose_spec.choose)
      have hwl : ws.length = n := by simp [ws]
      have hat : ∀ i (h : i < ws.length), w.cell? ⟨b, off + i * 3, none⟩ = some (.int .i64 ws[i].1) ∧ w.cell? ⟨b, off + i * 3 + 1, none⟩ = some (.int .i64 ws[i].2.1) ∧ w.cell? ⟨b, off + i * 3 + 2, none⟩ = some (U ws[i].2.2) ∧ (-9223372036854775808 ≤ ws[i].1 ∧ ws[i].1 ≤ 9223372036854775807) ∧ (-9223372036854775808 ≤ ws[i].2.1 ∧ ws[i].2.1 ≤ 9223372036854775807) := by
        intro i h
        have hin : i < n := by omega
        have hs := (key i hin).choose_spec.choose_spec.choose_spec
        have e : ws[i] = ((key i hin).choose, (key i hin).choose_spec.choose, (key i hin).choose_spec.choose_spec.choose) := by simp [ws]
        rw [e]
        exact hs
      refine ⟨some ⟨b, off, none⟩, ws, c, by rw [hwl], ⟨.inr ⟨b, off, rfl, fun k hk => ⟨(hat k hk).1, (hat k hk).2.1, (hat k hk).2.2.1⟩⟩, fun y hy => ?_⟩, by omega, hm⟩
      obtain ⟨i, hi2, rfl⟩ := List.getElem_of_mem hy
      exact (hat i hi2).2.2.2
end
end Go.Proofs.Ytdadplpibdjjbaa
