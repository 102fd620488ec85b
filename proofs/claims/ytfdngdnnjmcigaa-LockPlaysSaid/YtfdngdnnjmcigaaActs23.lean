/- Slices of acts (two numbers, some wants): what a statement's proof is told of them. -/
import Derived.Test.YtfdngdnnjmcigaaFrame
import Derived.Test.YtfdngdnnjmcigaaGen
import Derived.Lib.SmallJoins
import Derived.Test.YtfdngdnnjmcigaaLk
import Derived.Test.YtfdngdnnjmcigaaCtx
namespace Go.Proofs.Ytfdngdnnjmcigaa
open Go.ChangeShapes Go.WideShapes Go.ChangeAt Go.RowKit Go.Deep
set_option linter.unusedVariables false
set_option linter.unusedSimpArgs false
abbrev Ab := Int × Int × Option Addr × List Wt × Nat
/-- An act's cells, and its wants. -/
def AbAt (w : World) (b o : Nat) (x : Ab) : Prop :=
  w.cell? ⟨b, o, none⟩ = some (.int .i64 x.1) ∧ w.cell? ⟨b, o + 1, none⟩ = some (.int .i64 x.2.1) ∧ w.cell? ⟨b, o + 2, none⟩ = some (.slice x.2.2.1 x.2.2.2.1.length x.2.2.2.2) ∧ RdL w x.2.2.1 x.2.2.2.1
theorem AbAt.below {w w' : World} {b o : Nat} {x : Ab} (h : AbAt w b o x) (hb : Below w.heap.size w w') : AbAt w' b o x :=
  ⟨(hb.cell (p := ⟨b, o, none⟩) (cell_lt h.1)).trans h.1, (hb.cell (p := ⟨b, o + 1, none⟩) (cell_lt h.2.1)).trans h.2.1, (hb.cell (p := ⟨b, o + 2, none⟩) (cell_lt h.2.2.1)).trans h.2.2.1, h.2.2.2.below hb⟩
/-- A slice whose cells read as these acts. -/
def RdB (w : World) (A : Option Addr) (ws : List Ab) : Prop :=
  ws = [] ∨ ∃ b off, A = some ⟨b, off, none⟩ ∧ ∀ k, (h : k < ws.length) → AbAt w b (off + k * 3) ws[k]
theorem RdB.below {w w' : World} {A : Option Addr} {ws : List Ab} (h : RdB w A ws) (hb : Below w.heap.size w w') : RdB w' A ws := by
  rcases h with h | ⟨b, off, hA, hc⟩
  · exact .inl h
  · exact .inr ⟨b, off, hA, fun k hk => (hc k hk).below hb⟩
theorem RdB.at_ {w : World} {A : Option Addr} {ws : List Ab} (h : RdB w A ws) {k : Nat} (hk : k < ws.length) :
    ∃ b off, A = some ⟨b, off, none⟩ ∧ ∀ k, (h : k < ws.length) → AbAt w b (off + k * 3) ws[k] := by
  rcases h with h | h
  · rw [h] at hk; simp at hk
  · exact h
/-- Its places are ints. -/
structure AbOk (x : Ab) : Prop where
  f0 : -9223372036854775808 ≤ x.1 ∧ x.1 ≤ 9223372036854775807
  f1 : -9223372036854775808 ≤ x.2.1 ∧ x.2.1 ≤ 9223372036854775807
  f2 : ∀ y ∈ x.2.2.2.1, -9223372036854775808 ≤ y.1 ∧ y.1 ≤ 9223372036854775807
  f3 : x.2.2.2.1.length ≤ x.2.2.2.2 ∧ x.2.2.2.2 ≤ maxLen
def AbFit (ws : List Ab) : Prop := ∀ x ∈ ws, AbOk x
section
variable {H : Type} {enc : TypeId × Value → H} {P : Program} {w : World} {base : Nat} {spare : Nat → Bool} {held : Bool}
theorem open_wants_of {t e : TypeId} {f0 f1 : Field} {v : Value} {y : DataW H × List MemPlace} {fuel : Nat} (ht : P.underlying t = some (.slice e)) (he : P.underlying e = some (.struct #[f0, f1])) (hone : oneCellFields P #[f0, f1] = true) (hC : P.cellsOf e = 2)
    (u0 : P.underlying f0.type = some (.int .i64)) (u1 : P.underlying f1.type = some .bool) (hf : DataW.trod enc P w base spare held fuel t [v] = some y) :
    ∃ (a : Option Addr) (ws : List Wt) (c : Nat), v = .slice a ws.length c ∧ (RdL w a ws ∧ ∀ x ∈ ws, -9223372036854775808 ≤ x.1 ∧ x.1 ≤ 9223372036854775807) ∧ ws.length ≤ c ∧ c ≤ maxLen := by
  obtain ⟨a, n, c, hv⟩ := Go.Joins.slice_form ht hf
  obtain rfl : v = .slice a n c := by simpa using hv
  rcases open_slice ht hf with ⟨hcs, _⟩ | ⟨x, len, cap, m, n', D, Pl, hcs, hb, hl, hm, hmm, hx, hi⟩
  · simp [Value.cells] at hcs
    obtain ⟨rfl, rfl, rfl⟩ := hcs
    exact ⟨none, [], 0, rfl, ⟨.inl rfl, by simp⟩, by simp, by simp [maxLen]⟩
  · simp [Value.cells] at hcs
    obtain ⟨rfl, rfl, rfl⟩ := hcs
    have hnm : n ≤ m := by rw [hmm]; split <;> omega
    have key : ∀ i, i < n → ∃ (z : Int) (q : Bool), w.cell? (x.add (i * 2)) = some (.int .i64 z) ∧ w.cell? (x.add (i * 2 + 1)) = some (.bool q) ∧ -9223372036854775808 ≤ z ∧ z ≤ 9223372036854775807 := by
      intro i hin
      obtain ⟨cs', hc, ht'⟩ := hi i (by omega)
      rw [hC] at hc
      obtain ⟨ys, n2, _, hy, hlen, hyl, hg⟩ := DataW.trod_struct he ht'
      obtain ⟨_, hcl, hat⟩ := World.cells?_some hc
      obtain ⟨o0, k0⟩ := hone_of hone 0 f0 rfl
      obtain ⟨o1, k1⟩ := hone_of hone 1 f1 rfl
      rw [hC] at hlen
      match cs', hlen with
      | [c0, c1], _ =>
        match ys, hyl with
        | [y0, y1], _ =>
          have g0 := hg 0 f0 rfl
          have g1 := hg 1 f1 rfl
          rw [o0, k0] at g0
          rw [o1, k1] at g1
          have g0 : DataW.trod enc P w base spare held n2 f0.type [c0] = some y0 := g0
          have g1 : DataW.trod enc P w base spare held n2 f1.type [c1] = some y1 := g1
          obtain ⟨z, e0, _, w0⟩ := DataW.trod_int u0 g0
          obtain ⟨q, e1, _⟩ := DataW.trod_bool u1 g1
          obtain rfl : c0 = .int .i64 z := by simpa using e0
          obtain rfl : c1 = .bool q := by simpa using e1
          have a0 := hat 0 (by omega)
          have a1 := hat 1 (by omega)
          rw [Go.Deep.add_add, Nat.add_zero] at a0
          rw [Go.Deep.add_add] at a1
          exact ⟨z, q, a0, a1, bd_int w0⟩
    by_cases hn : n = 0
    · subst hn
      exact ⟨some x, [], c, rfl, ⟨.inl rfl, by simp⟩, by simp, hm⟩
    · obtain ⟨z0, q0, h0, _⟩ := key 0 (by omega)
      obtain ⟨b, off, spot⟩ := x
      have hspot : spot = none := by simpa [Addr.add] using World.cell?_spot h0
      subst hspot
      simp only [Addr.add_lit, ← Nat.add_assoc] at key
      let ws : List Wt := (List.range n).attach.map fun i => ((key i.1 (List.mem_range.1 i.2)).choose, (key i.1 (List.mem_range.1 i.2)).choose_spec.choose)
      have hwl : ws.length = n := by simp [ws]
      have hat : ∀ i (h : i < ws.length), w.cell? ⟨b, off + i * 2, none⟩ = some (.int .i64 ws[i].1) ∧ w.cell? ⟨b, off + i * 2 + 1, none⟩ = some (.bool ws[i].2) ∧ -9223372036854775808 ≤ ws[i].1 ∧ ws[i].1 ≤ 9223372036854775807 := by
        intro i h
        have hin : i < n := by omega
        have hs := (key i hin).choose_spec.choose_spec
        have e : ws[i] = ((key i hin).choose, (key i hin).choose_spec.choose) := by simp [ws]
        rw [e]
        exact hs
      refine ⟨some ⟨b, off, none⟩, ws, c, by rw [hwl], ⟨.inr ⟨b, off, rfl, fun k hk => ⟨(hat k hk).1, (hat k hk).2.1⟩⟩, fun y hy => ?_⟩, by omega, hm⟩
      obtain ⟨i, hi2, rfl⟩ := List.getElem_of_mem hy
      exact (hat i hi2).2.2
theorem open_acts23 {t e : TypeId} {f0 f1 f2 h0 h1 : Field} {ei : TypeId} {r : Reach} {b0 : Nat} {v : Value} {d : DataW H} {p : List MemPlace} (ht : P.underlying t = some (.slice e)) (he : P.underlying e = some (.struct #[f0, f1, f2])) (hone : oneCellFields P #[f0, f1, f2] = true) (hC : P.cellsOf e = 3)
    (u0 : P.underlying f0.type = some (.int .i64)) (u1 : P.underlying f1.type = some (.int .i64)) (u2 : P.underlying f2.type = some (.slice ei)) (ui : P.underlying ei = some (.struct #[h0, h1])) (honi : oneCellFields P #[h0, h1] = true) (hCi : P.cellsOf ei = 2) (v0 : P.underlying h0.type = some (.int .i64)) (v1 : P.underlying h1.type = some .bool)
    (hv : Value.okWide P w r b0 t v) (h : DataW.Trod enc P w base spare held t v d p) :
    ∃ (a : Option Addr) (ws : List Ab) (c : Nat), v = .slice a ws.length c ∧ (RdB w a ws ∧ AbFit ws) ∧ ws.length ≤ c ∧ c ≤ maxLen := by
  obtain ⟨a, n, c, rfl⟩ := okWide_slice ht hv
  obtain ⟨fuel, hf⟩ := h
  rcases open_slice ht hf with ⟨hcs, _⟩ | ⟨x, len, cap, m, n', D, Pl, hcs, hb, hl, hm, hmm, hx, hi⟩
  · simp [Value.cells] at hcs
    obtain ⟨rfl, rfl, rfl⟩ := hcs
    exact ⟨none, [], 0, rfl, ⟨.inl rfl, by simp [AbFit]⟩, by simp, by simp [maxLen]⟩
  · simp [Value.cells] at hcs
    obtain ⟨rfl, rfl, rfl⟩ := hcs
    have hnm : n ≤ m := by rw [hmm]; split <;> omega
    have key : ∀ i, i < n → ∃ q : Ab, w.cell? (x.add (i * 3)) = some (.int .i64 q.1) ∧ w.cell? (x.add (i * 3 + 1)) = some (.int .i64 q.2.1) ∧ w.cell? (x.add (i * 3 + 2)) = some (.slice q.2.2.1 q.2.2.2.1.length q.2.2.2.2) ∧ RdL w q.2.2.1 q.2.2.2.1 ∧ AbOk q := by
      intro i hin
      obtain ⟨cs', hc, ht'⟩ := hi i (by omega)
      rw [hC] at hc
      obtain ⟨ys, n2, _, hy, hlen, hyl, hg⟩ := DataW.trod_struct he ht'
      obtain ⟨_, hcl, hat⟩ := World.cells?_some hc
      obtain ⟨o0, k0⟩ := hone_of hone 0 f0 rfl
      obtain ⟨o1, k1⟩ := hone_of hone 1 f1 rfl
      obtain ⟨o2, k2⟩ := hone_of hone 2 f2 rfl
      rw [hC] at hlen
      match cs', hlen with
      | [c0, c1, c2], _ =>
        match ys, hyl with
        | [y0, y1, y2], _ =>
          have g0 := hg 0 f0 rfl
          have g1 := hg 1 f1 rfl
          have g2 := hg 2 f2 rfl
          rw [o0, k0] at g0
          rw [o1, k1] at g1
          rw [o2, k2] at g2
          have g0 : DataW.trod enc P w base spare held n2 f0.type [c0] = some y0 := g0
          have g1 : DataW.trod enc P w base spare held n2 f1.type [c1] = some y1 := g1
          have g2 : DataW.trod enc P w base spare held n2 f2.type [c2] = some y2 := g2
          obtain ⟨z, e0, _, w0⟩ := DataW.trod_int u0 g0
          obtain ⟨z2, e1, _, w1⟩ := DataW.trod_int u1 g1
          obtain ⟨B, ns, nc, e3, ⟨hrn, hfn⟩, hn1, hn2⟩ := open_wants_of u2 ui honi hCi v0 v1 g2
          obtain rfl : c0 = .int .i64 z := by simpa using e0
          obtain rfl : c1 = .int .i64 z2 := by simpa using e1
          subst e3
          have a0 := hat 0 (by omega)
          have a1 := hat 1 (by omega)
          have a2 := hat 2 (by omega)
          rw [Go.Deep.add_add, Nat.add_zero] at a0
          rw [Go.Deep.add_add] at a1 a2
          exact ⟨(z, z2, B, ns, nc), a0, a1, a2, hrn, ⟨bd_int w0, bd_int w1, hfn, hn1, hn2⟩⟩
    by_cases hn : n = 0
    · subst hn
      exact ⟨some x, [], c, rfl, ⟨.inl rfl, by simp [AbFit]⟩, by simp, hm⟩
    · obtain ⟨_, h0, _⟩ := key 0 (by omega)
      obtain ⟨b, off, spot⟩ := x
      have hspot : spot = none := by simpa [Addr.add] using World.cell?_spot h0
      subst hspot
      simp only [Addr.add_lit, ← Nat.add_assoc] at key
      let ws : List Ab := (List.range n).attach.map fun i => (key i.1 (List.mem_range.1 i.2)).choose
      have hwl : ws.length = n := by simp [ws]
      have hat : ∀ i (h : i < ws.length), AbAt w b (off + i * 3) ws[i] ∧ AbOk ws[i] := by
        intro i h
        have hin : i < n := by omega
        have hs := (key i hin).choose_spec
        have e : ws[i] = (key i hin).choose := by simp [ws]
        rw [e]
        exact ⟨⟨hs.1, hs.2.1, hs.2.2.1, hs.2.2.2.1⟩, hs.2.2.2.2⟩
      refine ⟨some ⟨b, off, none⟩, ws, c, by rw [hwl], ⟨.inr ⟨b, off, rfl, fun k hk => (hat k hk).1⟩, fun y hy => ?_⟩, by omega, hm⟩
      obtain ⟨i, hi2, rfl⟩ := List.getElem_of_mem hy
      exact (hat i hi2).2
end
end Go.Proofs.Ytfdngdnnjmcigaa
