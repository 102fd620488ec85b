/- Slices of records (a number, some writes): what a statement's proof is told of them. -/
import Derived.Test.YtoifejinppjeeaaWrites
import Derived.Test.YtoifejinppjeeaaCtx
namespace Go.Proofs.Ytoifejinppjeeaa
open Go.ChangeShapes Go.WideShapes Go.ChangeAt Go.RowKit Go.Deep
set_option linter.unusedVariables false
set_option linter.unusedSimpArgs false
abbrev Rc := BitVec 64 × Option Addr × List (Int × BitVec 64) × Nat
/-- A record's cells, and its writes. -/
def RcAt (w : World) (b o : Nat) (x : Rc) : Prop :=
  w.cell? ⟨b, o, none⟩ = some (U x.1) ∧ w.cell? ⟨b, o + 1, none⟩ = some (.slice x.2.1 x.2.2.1.length x.2.2.2) ∧ RdW w x.2.1 x.2.2.1
theorem RcAt.below {w w' : World} {b o : Nat} {x : Rc} (h : RcAt w b o x) (hb : Below w.heap.size w w') : RcAt w' b o x :=
  ⟨(hb.cell (p := ⟨b, o, none⟩) (cell_lt h.1)).trans h.1, (hb.cell (p := ⟨b, o + 1, none⟩) (cell_lt h.2.1)).trans h.2.1, h.2.2.below hb⟩
/-- A slice whose cells read as these records. -/
def RdC (w : World) (A : Option Addr) (ws : List Rc) : Prop :=
  ws = [] ∨ ∃ b off, A = some ⟨b, off, none⟩ ∧ ∀ k, (h : k < ws.length) → RcAt w b (off + k * 2) ws[k]
theorem RdC.below {w w' : World} {A : Option Addr} {ws : List Rc} (h : RdC w A ws) (hb : Below w.heap.size w w') : RdC w' A ws := by
  rcases h with h | ⟨b, off, hA, hc⟩
  · exact .inl h
  · exact .inr ⟨b, off, hA, fun k hk => (hc k hk).below hb⟩
theorem RdC.at_ {w : World} {A : Option Addr} {ws : List Rc} (h : RdC w A ws) {k : Nat} (hk : k < ws.length) :
    ∃ b off, A = some ⟨b, off, none⟩ ∧ ∀ k, (h : k < ws.length) → RcAt w b (off + k * 2) ws[k] := by
  rcases h with h | h
  · rw [h] at hk; simp at hk
  · exact h
/-- Its places are ints. -/
structure RcOk (x : Rc) : Prop where
  f2 : ∀ y ∈ x.2.2.1, -9223372036854775808 ≤ y.1 ∧ y.1 ≤ 9223372036854775807
  f3 : x.2.2.1.length ≤ x.2.2.2 ∧ x.2.2.2 ≤ maxLen
def RcFit (ws : List Rc) : Prop := ∀ x ∈ ws, RcOk x
section
variable {H : Type} {enc : TypeId × Value → H} {P : Program} {w : World} {base : Nat} {spare : Nat → Bool} {held : Bool}
theorem open_recs {t e : TypeId} {f0 f1 h0 h1 : Field} {ei : TypeId} {r : Reach} {b0 : Nat} {v : Value} {d : DataW H} {p : List MemPlace} (ht : P.underlying t = some (.slice e)) (he : P.underlying e = some (.struct #[f0, f1])) (hone : oneCellFields P #[f0, f1] = true) (hC : P.cellsOf e = 2)
    (u0 : P.underlying f0.type = some (.int .u64)) (u1 : P.underlying f1.type = some (.slice ei)) (ui : P.underlying ei = some (.struct #[h0, h1])) (honi : oneCellFields P #[h0, h1] = true) (hCi : P.cellsOf ei = 2) (v0 : P.underlying h0.type = some (.int .i64)) (v1 : P.underlying h1.type = some (.int .u64))
    (hv : Value.okWide P w r b0 t v) (h : DataW.Trod enc P w base spare held t v d p) :
    ∃ (a : Option Addr) (ws : List Rc) (c : Nat), v = .slice a ws.length c ∧ (RdC w a ws ∧ RcFit ws) ∧ ws.length ≤ c ∧ c ≤ maxLen := by
  obtain ⟨a, n, c, rfl⟩ := okWide_slice ht hv
  obtain ⟨fuel, hf⟩ := h
  rcases open_slice ht hf with ⟨hcs, _⟩ | ⟨x, len, cap, m, n', D, Pl, hcs, hb, hl, hm, hmm, hx, hi⟩
  · simp [Value.cells] at hcs
    obtain ⟨rfl, rfl, rfl⟩ := hcs
    exact ⟨none, [], 0, rfl, ⟨.inl rfl, by simp [RcFit]⟩, by simp, by simp [maxLen]⟩
  · simp [Value.cells] at hcs
    obtain ⟨rfl, rfl, rfl⟩ := hcs
    have hnm : n ≤ m := by rw [hmm]; split <;> omega
    have key : ∀ i, i < n → ∃ q : Rc, w.cell? (x.add (i * 2)) = some (U q.1) ∧ w.cell? (x.add (i * 2 + 1)) = some (.slice q.2.1 q.2.2.1.length q.2.2.2) ∧ RdW w q.2.1 q.2.2.1 ∧ RcOk q := by
      intro i hin
      obtain ⟨cs', hc, ht'⟩ := hi i (by omega)
      rw [hC] at hc
      obtain ⟨ys, n2, _, hy, hlen, hyl, hg⟩ := DataW.trod_struct he ht'
      obtain ⟨_, hcl, hat⟩ := World.cells?_some hc
      obtain ⟨o0, k0⟩ := hone_of hone 0 f0 rfl
      obtain ⟨o1, k1⟩ := hone_of hone 1 f1 rfl
      rw [hC] at hlen
      match cs', hlen with
      | [c0, c1], _ =>
        match ys, hyl with
        | [y0, y1], _ =>
          have g0 := hg 0 f0 rfl
          have g1 := hg 1 f1 rfl
          rw [o0, k0] at g0
          rw [o1, k1] at g1
          have g0 : DataW.trod enc P w base spare held n2 f0.type [c0] = some y0 := g0
          have g1 : DataW.trod enc P w base spare held n2 f1.type [c1] = some y1 := g1
          obtain ⟨q, e2, _, w2⟩ := DataW.trod_int u0 g0
          obtain ⟨B, ns, nc, e3, ⟨hrn, hfn⟩, hn1, hn2⟩ := open_writes_of u1 ui honi hCi v0 v1 g1
          obtain rfl : c0 = .int .u64 q := by simpa using e2
          subst e3
          obtain ⟨q', hq⟩ := word_of w2
          have a0 := hat 0 (by omega)
          have a1 := hat 1 (by omega)
          rw [Go.Deep.add_add, Nat.add_zero] at a0
          rw [Go.Deep.add_add] at a1
          exact ⟨(q', B, ns, nc), by rw [a0, ← hq]; rfl, a1, hrn, ⟨hfn, hn1, hn2⟩⟩
    by_cases hn : n = 0
    · subst hn
      exact ⟨some x, [], c, rfl, ⟨.inl rfl, by simp [RcFit]⟩, by simp, hm⟩
    · obtain ⟨_, h0, _⟩ := key 0 (by omega)
      obtain ⟨b, off, spot⟩ := x
      have hspot : spot = none := by simpa [Addr.add] using World.cell?_spot h0
      subst hspot
      simp only [Addr.add_lit, ← Nat.add_assoc] at key
      let ws : List Rc := (List.range n).attach.map fun i => (key i.1 (List.mem_range.1 i.2)).choose
      have hwl : ws.length = n := by simp [ws]
      have hat : ∀ i (h : i < ws.length), RcAt w b (off + i * 2) ws[i] ∧ RcOk ws[i] := by
        intro i h
        have hin : i < n := by omega
        have hs := (key i hin).choose_spec
        have e : ws[i] = (key i hin).choose := by simp [ws]
        rw [e]
        exact ⟨⟨hs.1, hs.2.1, hs.2.2.1⟩, hs.2.2.2⟩
      refine ⟨some ⟨b, off, none⟩, ws, c, by rw [hwl], ⟨.inr ⟨b, off, rfl, fun k hk => (hat k hk).1⟩, fun y hy => ?_⟩, by omega, hm⟩
      obtain ⟨i, hi2, rfl⟩ := List.getElem_of_mem hy
      exact (hat i hi2).2
end
end Go.Proofs.Ytoifejinppjeeaa
