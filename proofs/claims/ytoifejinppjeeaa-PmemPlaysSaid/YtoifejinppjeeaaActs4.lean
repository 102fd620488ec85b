/- Slices of acts (a number, a place, a word, some lines): what a statement's proof is told of them. -/
import Derived.Test.YtoifejinppjeeaaPm
namespace Go.Proofs.Ytoifejinppjeeaa
open Go.ChangeShapes Go.WideShapes Go.ChangeAt Go.RowKit Go.Deep
set_option linter.unusedVariables false
set_option linter.unusedSimpArgs false
abbrev Ac := Int × Int × BitVec 64 × Option Addr × List Int × Nat
/-- An act's cells, and the numbers of its lines. -/
def AcAt (w : World) (b o : Nat) (x : Ac) : Prop :=
  w.cell? ⟨b, o, none⟩ = some (.int .i64 x.1) ∧ w.cell? ⟨b, o + 1, none⟩ = some (.int .i64 x.2.1) ∧ w.cell? ⟨b, o + 2, none⟩ = some (U x.2.2.1) ∧ w.cell? ⟨b, o + 3, none⟩ = some (.slice x.2.2.2.1 x.2.2.2.2.1.length x.2.2.2.2.2) ∧ RdF I6 w x.2.2.2.1 x.2.2.2.2.1
theorem AcAt.below {w w' : World} {b o : Nat} {x : Ac} (h : AcAt w b o x) (hb : Below w.heap.size w w') : AcAt w' b o x :=
  ⟨(hb.cell (p := ⟨b, o, none⟩) (cell_lt h.1)).trans h.1, (hb.cell (p := ⟨b, o + 1, none⟩) (cell_lt h.2.1)).trans h.2.1, (hb.cell (p := ⟨b, o + 2, none⟩) (cell_lt h.2.2.1)).trans h.2.2.1, (hb.cell (p := ⟨b, o + 3, none⟩) (cell_lt h.2.2.2.1)).trans h.2.2.2.1, h.2.2.2.2.below hb⟩
/-- A slice whose cells read as these acts. -/
def RdA (w : World) (A : Option Addr) (ws : List Ac) : Prop :=
  ws = [] ∨ ∃ b off, A = some ⟨b, off, none⟩ ∧ ∀ k, (h : k < ws.length) → AcAt w b (off + k * 4) ws[k]
theorem RdA.below {w w' : World} {A : Option Addr} {ws : List Ac} (h : RdA w A ws) (hb : Below w.heap.size w w') : RdA w' A ws := by
  rcases h with h | ⟨b, off, hA, hc⟩
  · exact .inl h
  · exact .inr ⟨b, off, hA, fun k hk => (hc k hk).below hb⟩
theorem RdA.at_ {w : World} {A : Option Addr} {ws : List Ac} (h : RdA w A ws) {k : Nat} (hk : k < ws.length) :
    ∃ b off, A = some ⟨b, off, none⟩ ∧ ∀ k, (h : k < ws.length) → AcAt w b (off + k * 4) ws[k] := by
  rcases h with h | h
  · rw [h] at hk; simp at hk
  · exact h
/-- Its places are ints. -/
structure AcOk (x : Ac) : Prop where
  f0 : -9223372036854775808 ≤ x.1 ∧ x.1 ≤ 9223372036854775807
  f1 : -9223372036854775808 ≤ x.2.1 ∧ x.2.1 ≤ 9223372036854775807
  f2 : ∀ z ∈ x.2.2.2.2.1, -9223372036854775808 ≤ z ∧ z ≤ 9223372036854775807
  f3 : x.2.2.2.2.1.length ≤ x.2.2.2.2.2 ∧ x.2.2.2.2.2 ≤ maxLen
def AcFit (ws : List Ac) : Prop := ∀ x ∈ ws, AcOk x
section
variable {H : Type} {enc : TypeId × Value → H} {P : Program} {w : World} {base : Nat} {spare : Nat → Bool} {held : Bool}
theorem open_ints_of {t e : TypeId} {v : Value} {y : DataW H × List MemPlace} {fuel : Nat} (ht : P.underlying t = some (.slice e)) (he : P.underlying e = some (.int .i64)) (hC : P.cellsOf e = 1) (hf : DataW.trod enc P w base spare held fuel t [v] = some y) :
    ∃ (a : Option Addr) (zs : List Int) (c : Nat), v = .slice a zs.length c ∧ RdF I6 w a zs ∧ (∀ z ∈ zs, -9223372036854775808 ≤ z ∧ z ≤ 9223372036854775807) ∧ zs.length ≤ c ∧ c ≤ maxLen := by
  obtain ⟨a, n, c, hv⟩ := Go.Joins.slice_form ht hf
  obtain rfl : v = .slice a n c := by simpa using hv
  rcases open_ints ht he hC hf with ⟨hcs, _⟩ | ⟨x, l, c', zs, hcs, _, hl, hm, hz, _, hcell, hwz⟩
  · simp [Value.cells] at hcs
    obtain ⟨rfl, rfl, rfl⟩ := hcs
    exact ⟨none, [], 0, rfl, .inl rfl, by simp, by simp, by simp [maxLen]⟩
  · simp [Value.cells] at hcs
    obtain ⟨rfl, rfl, rfl⟩ := hcs
    have hz' : n ≤ zs.length := by rw [hz]; split <;> omega
    have hln : (zs.take n).length = n := by simp; omega
    refine ⟨some x, zs.take n, c, by rw [hln], ?_, fun z hz => bd_int (hwz z (List.mem_of_mem_take hz)), by omega, hm⟩
    by_cases hn : n = 0
    · left; simp [hn]
    · right
      obtain ⟨b, off, spot⟩ := x
      have hc := hcell 0 (by omega)
      have hspot : spot = none := by simpa [Addr.add] using World.cell?_spot hc
      subst hspot
      refine ⟨b, off, rfl, fun i hi => ?_⟩
      have hi' : i < zs.length := by simp at hi; omega
      have := hcell i hi'
      rw [Addr.add_lit] at this
      rw [this, List.getElem_take]
      simp [hi', I6]
theorem open_acts {t e : TypeId} {f0 f1 f2 f3 : Field} {ei : TypeId} {r : Reach} {b0 : Nat} {v : Value} {d : DataW H} {p : List MemPlace} (ht : P.underlying t = some (.slice e)) (he : P.underlying e = some (.struct #[f0, f1, f2, f3])) (hone : oneCellFields P #[f0, f1, f2, f3] = true) (hC : P.cellsOf e = 4)
    (u0 : P.underlying f0.type = some (.int .i64)) (u1 : P.underlying f1.type = some (.int .i64)) (u2 : P.underlying f2.type = some (.int .u64)) (u3 : P.underlying f3.type = some (.slice ei)) (ui : P.underlying ei = some (.int .i64)) (hCi : P.cellsOf ei = 1)
    (hv : Value.okWide P w r b0 t v) (h : DataW.Trod enc P w base spare held t v d p) :
    ∃ (a : Option Addr) (ws : List Ac) (c : Nat), v = .slice a ws.length c ∧ (RdA w a ws ∧ AcFit ws) ∧ ws.length ≤ c ∧ c ≤ maxLen := by
  obtain ⟨a, n, c, rfl⟩ := okWide_slice ht hv
  obtain ⟨fuel, hf⟩ := h
  rcases open_slice ht hf with ⟨hcs, _⟩ | ⟨x, len, cap, m, n', D, Pl, hcs, hb, hl, hm, hmm, hx, hi⟩
  · simp [Value.cells] at hcs
    obtain ⟨rfl, rfl, rfl⟩ := hcs
    exact ⟨none, [], 0, rfl, ⟨.inl rfl, by simp [AcFit]⟩, by simp, by simp [maxLen]⟩
  · simp [Value.cells] at hcs
    obtain ⟨rfl, rfl, rfl⟩ := hcs
    have hnm : n ≤ m := by rw [hmm]; split <;> omega
    have key : ∀ i, i < n → ∃ q : Ac, w.cell? (x.add (i * 4)) = some (.int .i64 q.1) ∧ w.cell? (x.add (i * 4 + 1)) = some (.int .i64 q.2.1) ∧ w.cell? (x.add (i * 4 + 2)) = some (U q.2.2.1) ∧ w.cell? (x.add (i * 4 + 3)) = some (.slice q.2.2.2.1 q.2.2.2.2.1.length q.2.2.2.2.2) ∧ RdF I6 w q.2.2.2.1 q.2.2.2.2.1 ∧ AcOk q := by
      intro i hin
      obtain ⟨cs', hc, ht'⟩ := hi i (by omega)
      rw [hC] at hc
      obtain ⟨ys, n2, _, hy, hlen, hyl, hg⟩ := DataW.trod_struct he ht'
      obtain ⟨_, hcl, hat⟩ := World.cells?_some hc
      obtain ⟨o0, k0⟩ := hone_of hone 0 f0 rfl
      obtain ⟨o1, k1⟩ := hone_of hone 1 f1 rfl
      obtain ⟨o2, k2⟩ := hone_of hone 2 f2 rfl
      obtain ⟨o3, k3⟩ := hone_of hone 3 f3 rfl
      rw [hC] at hlen
      match cs', hlen with
      | [c0, c1, c2, c3], _ =>
        match ys, hyl with
        | [y0, y1, y2, y3], _ =>
          have g0 := hg 0 f0 rfl
          have g1 := hg 1 f1 rfl
          have g2 := hg 2 f2 rfl
          have g3 := hg 3 f3 rfl
          rw [o0, k0] at g0
          rw [o1, k1] at g1
          rw [o2, k2] at g2
          rw [o3, k3] at g3
          have g0 : DataW.trod enc P w base spare held n2 f0.type [c0] = some y0 := g0
          have g1 : DataW.trod enc P w base spare held n2 f1.type [c1] = some y1 := g1
          have g2 : DataW.trod enc P w base spare held n2 f2.type [c2] = some y2 := g2
          have g3 : DataW.trod enc P w base spare held n2 f3.type [c3] = some y3 := g3
          obtain ⟨z, e0, _, w0⟩ := DataW.trod_int u0 g0
          obtain ⟨z2, e1, _, w1⟩ := DataW.trod_int u1 g1
          obtain ⟨q, e2, _, w2⟩ := DataW.trod_int u2 g2
          obtain ⟨B, ns, nc, e3, hrn, hfn, hn1, hn2⟩ := open_ints_of u3 ui hCi g3
          obtain rfl : c0 = .int .i64 z := by simpa using e0
          obtain rfl : c1 = .int .i64 z2 := by simpa using e1
          obtain rfl : c2 = .int .u64 q := by simpa using e2
          subst e3
          obtain ⟨q', hq⟩ := word_of w2
          have a0 := hat 0 (by omega)
          have a1 := hat 1 (by omega)
          have a2 := hat 2 (by omega)
          have a3 := hat 3 (by omega)
          rw [Go.Deep.add_add, Nat.add_zero] at a0
          rw [Go.Deep.add_add] at a1 a2 a3
          exact ⟨(z, z2, q', B, ns, nc), a0, a1, by rw [a2, ← hq]; rfl, a3, hrn, ⟨bd_int w0, bd_int w1, hfn, hn1, hn2⟩⟩
    by_cases hn : n = 0
    · subst hn
      exact ⟨some x, [], c, rfl, ⟨.inl rfl, by simp [AcFit]⟩, by simp, hm⟩
    · obtain ⟨_, h0, _⟩ := key 0 (by omega)
      obtain ⟨b, off, spot⟩ := x
      have hspot : spot = none := by simpa [Addr.add] using World.cell?_spot h0
      subst hspot
      simp only [Addr.add_lit, ← Nat.add_assoc] at key
      let ws : List Ac := (List.range n).attach.map fun i => (key i.1 (List.mem_range.1 i.2)).choose
      have hwl : ws.length = n := by simp [ws]
      have hat : ∀ i (h : i < ws.length), AcAt w b (off + i * 4) ws[i] ∧ AcOk ws[i] := by
        intro i h
        have hin : i < n := by omega
        have hs := (key i hin).choose_spec
        have e : ws[i] = (key i hin).choose := by simp [ws]
        rw [e]
        exact ⟨⟨hs.1, hs.2.1, hs.2.2.1, hs.2.2.2.1, hs.2.2.2.2.1⟩, hs.2.2.2.2.2⟩
      refine ⟨some ⟨b, off, none⟩, ws, c, by rw [hwl], ⟨.inr ⟨b, off, rfl, fun k hk => (hat k hk).1⟩, fun y hy => ?_⟩, by omega, hm⟩
      obtain ⟨i, hi2, rfl⟩ := List.getElem_of_mem hy
      exact (hat i hi2).2
end
end Go.Proofs.Ytoifejinppjeeaa
