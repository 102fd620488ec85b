/- The reference's memory: how it lies in memory, who owns which blocks. Plain laws. No condition. -/
import Derived.Test.YtoifejinppjeeaaPm
import Derived.Test.YtoifejinppjeeaaRefLineW2
namespace Go.Proofs.Ytoifejinppjeeaa
open Go.RowKit
set_option linter.unusedVariables false
set_option linter.unusedSimpArgs false
/-- The blocks of the reference's line i: the line's own, that of its words, that of its open stores. -/
def RLnAt (w : World) (own : Nat → Nat) (i x : Nat) (l : Ln) : Prop :=
  l.ok ∧ own x = i + 3 ∧ ∃ S sc O oc, RefAt w x l.ss (mk l.os l.fl) S sc O oc ∧ ∀ q, blk S = some q ∨ blk O = some q → own q = i + 3
def rCells (G : MG) (a : AM) (z : Int) (K : Option Addr) (kc : Nat) : Array Value :=
  #[.slice G.A G.xs.length G.c, .bool a.off, .int .i64 z, .slice K a.keep.length kc, .int .i64 a.n1, .int .i64 a.n2, .int .i64 a.n3]
/-- A memory at block m. -/
structure RMemAt (w : World) (m : Nat) (own : Nat → Nat) (G : MG) (a : AM) : Prop where
  blk : ∃ z K kc, w.heap[m]? = some (.cells (rCells G a z K kc) 63 (0, 0)) ∧ max z 0 = a.fuse ∧ RdF I6 w K a.keep ∧ a.keep.length ≤ kc ∧ kc ≤ maxLen ∧ ∀ q, Go.Proofs.Ytoifejinppjeeaa.blk K = some q → own q = 2
  row : RdF ptr w G.A G.xs ∧ G.xs.length ≤ G.c ∧ G.c ≤ maxLen ∧ ∀ q, Go.Proofs.Ytoifejinppjeeaa.blk G.A = some q → own q = 2
  len : G.xs.length = a.ls.length
  few : a.ls.length ≤ 1024
  lines : ∀ i, (h : i < a.ls.length) → RLnAt w own i (G.xs[i]'(by omega)) a.ls[i]
  me : own m = 1
  fresh : ∀ k, w.heap.size ≤ k → own k = 0
section
variable {w w' : World} {own own' : Nat → Nat} {m : Nat} {G : MG} {a a' : AM}
theorem RLnAt.same {i x : Nat} {l : Ln} (h : RLnAt w own i x l) (hz : w.heap.size ≤ w'.heap.size) (hs : ∀ q, q < w.heap.size → own q = i + 3 → w'.heap[q]? = w.heap[q]? ∧ own' q = i + 3) : RLnAt w' own' i x l := by
  obtain ⟨hok, ho, S, sc, O, oc, hl, hb⟩ := h
  refine ⟨hok, (hs x hl.lt ho).2, S, sc, O, oc, hl.same hz (hs x hl.lt ho).1 (fun q hq => (hs q (hl.slt q hq) (hb q (.inl hq))).1) (fun q hq => (hs q (hl.olt q hq) (hb q (.inr hq))).1), fun q hq => ?_⟩
  rcases hq with hq | hq
  · exact (hs q (hl.slt q hq) (hb q (.inl hq))).2
  · exact (hs q (hl.olt q hq) (hb q (.inr hq))).2
/-- What leaves the memory's blocks leaves the memory. -/
theorem RMemAt.same (h : RMemAt w m own G a) (hz : w.heap.size ≤ w'.heap.size) (hs : ∀ q, q < w.heap.size → own q ≠ 0 → w'.heap[q]? = w.heap[q]?) : RMemAt w' m own G a := by
  have lt : ∀ q, own q ≠ 0 → q < w.heap.size := fun q hq => by
    rcases Nat.lt_or_ge q w.heap.size with h1 | h1
    · exact h1
    · exact absurd (h.fresh q h1) hq
  have sm : ∀ q n, own q = n + 1 → w'.heap[q]? = w.heap[q]? := fun q n hq => hs q (lt q (by omega)) (by omega)
  obtain ⟨z, K, kc, h1, hzf, h2, h3, h4, h5⟩ := h.blk
  refine ⟨⟨z, K, kc, (sm m 0 h.me).trans h1, hzf, rd_same h2 fun q hq => sm q 1 (h5 q hq), h3, h4, h5⟩, ⟨rd_same h.row.1 fun q hq => sm q 1 (h.row.2.2.2 q hq), h.row.2⟩, h.len, h.few, fun i hi => ?_, h.me, fun k hk => h.fresh k (by omega)⟩
  exact (h.lines i hi).same hz fun q hq ho => ⟨sm q (i + 2) ho, ho⟩
theorem RMemAt.below (h : RMemAt w m own G a) (hb : Below w.heap.size w w') : RMemAt w' m own G a := h.same hb.size fun q hq _ => hb.block q hq
theorem RMemAt.lt (h : RMemAt w m own G a) : m < w.heap.size := by
  obtain ⟨z, K, kc, h1, _⟩ := h.blk
  exact heap_lt h1
theorem RMemAt.tag (h : RMemAt w m own G a) {q n : Nat} (hq : own q = n + 1) : q < w.heap.size := by
  rcases Nat.lt_or_ge q w.heap.size with h1 | h1
  · exact h1
  · have := h.fresh q h1; omega
theorem RMemAt.keeps (h : RMemAt w m own G a) {K : Option Addr} {ks : List Int} (hk : RdF I6 w K ks) (ho : ∀ q, Go.Proofs.Ytoifejinppjeeaa.blk K = some q → own q = 2) {W : World} {own2 : Nat → Nat} (hf : MFr w W own own2) : RdF I6 W K ks :=
  rd_same hk fun q hq => hf.block q (h.tag (ho q hq)) (.inr (ho q hq))
theorem RMemAt.xlen (h : RMemAt w m own G a) {i : Nat} (hi : i < a.ls.length) : i < G.xs.length := by rw [h.len]; exact hi
/-- One of the memory's own cells is written. -/
theorem RMemAt.reM (h : RMemAt w m own G a) (hz : w'.heap.size = w.heap.size) (hs : ∀ q, q ≠ m → w'.heap[q]? = w.heap[q]?) (hl : a'.ls = a.ls) (hk : a'.keep = a.keep)
    (hc : ∀ z K kc, w.heap[m]? = some (.cells (rCells G a z K kc) 63 (0, 0)) → max z 0 = a.fuse → ∃ z', w'.heap[m]? = some (.cells (rCells G a' z' K kc) 63 (0, 0)) ∧ max z' 0 = a'.fuse) : RMemAt w' m own G a' := by
  have hm := h.me
  obtain ⟨z, K, kc, h1, hzf, h2, h3, h4, h5⟩ := h.blk
  obtain ⟨z', hc1, hc2⟩ := hc z K kc h1 hzf
  refine ⟨⟨z', K, kc, hc1, hc2, ?_, by rw [hk]; exact h3, h4, h5⟩, ⟨rd_same h.row.1 fun q hq => hs q ?_, h.row.2⟩, by rw [hl]; exact h.len, by rw [hl]; exact h.few, fun i hi => ?_, h.me, fun k hk => h.fresh k (by omega)⟩
  · rw [hk]
    refine rd_same h2 fun q hq => hs q ?_
    rintro rfl
    have := h5 q hq
    omega
  · rintro rfl
    have := h.row.2.2.2 q hq
    omega
  · have hi' : i < a.ls.length := by rw [← hl]; exact hi
    have e : a'.ls[i] = a.ls[i]'hi' := by simp [hl]
    rw [e]
    exact (h.lines i hi').same (Nat.le_of_eq hz.symm) fun q hq ho => ⟨hs q (by rintro rfl; omega), ho⟩
theorem rreM_fr (h : RMemAt w m own G a) {i : Nat} {v : Value} : MFr w (w.setCell ⟨m, i, none⟩ v) own own :=
  ⟨rfl, rfl, rfl, by simp [World.setCell], fun k _ h0 => Below.heap_setCell _ _ _ _ (by simp; rintro rfl; have := h.me; omega), fun _ _ => rfl⟩
theorem RMemAt.setOff (h : RMemAt w m own G a) (b : Bool) : RMemAt (w.setCell ⟨m, 1, none⟩ (.bool b)) m own G { a with off := b } :=
  h.reM (by simp [World.setCell]) (fun q hq => Below.heap_setCell _ _ _ _ (by simpa using hq)) rfl rfl fun z K kc hc hz => ⟨z, by
    rw [Go.Joins.block_setCell (i := 1) hc]; simp [rCells], hz⟩
theorem RMemAt.setFuse (h : RMemAt w m own G a) (z : Int) : RMemAt (w.setCell ⟨m, 2, none⟩ (.int .i64 z)) m own G { a with fuse := max z 0 } :=
  h.reM (by simp [World.setCell]) (fun q hq => Below.heap_setCell _ _ _ _ (by simpa using hq)) rfl rfl fun _ K kc hc hz => ⟨z, by
    rw [Go.Joins.block_setCell (i := 2) hc]; simp [rCells], rfl⟩
theorem RMemAt.setN1 (h : RMemAt w m own G a) (z : Int) : RMemAt (w.setCell ⟨m, 4, none⟩ (.int .i64 z)) m own G { a with n1 := z } :=
  h.reM (by simp [World.setCell]) (fun q hq => Below.heap_setCell _ _ _ _ (by simpa using hq)) rfl rfl fun y K kc hc hz => ⟨y, by
    rw [Go.Joins.block_setCell (i := 4) hc]; simp [rCells], hz⟩
theorem RMemAt.setN2 (h : RMemAt w m own G a) (z : Int) : RMemAt (w.setCell ⟨m, 5, none⟩ (.int .i64 z)) m own G { a with n2 := z } :=
  h.reM (by simp [World.setCell]) (fun q hq => Below.heap_setCell _ _ _ _ (by simpa using hq)) rfl rfl fun y K kc hc hz => ⟨y, by
    rw [Go.Joins.block_setCell (i := 5) hc]; simp [rCells], hz⟩
theorem RMemAt.setN3 (h : RMemAt w m own G a) (z : Int) : RMemAt (w.setCell ⟨m, 6, none⟩ (.int .i64 z)) m own G { a with n3 := z } :=
  h.reM (by simp [World.setCell]) (fun q hq => Below.heap_setCell _ _ _ _ (by simpa using hq)) rfl rfl fun y K kc hc hz => ⟨y, by
    rw [Go.Joins.block_setCell (i := 6) hc]; simp [rCells], hz⟩
/-- Another row of numbers to keep, in a new block. -/
theorem RMemAt.setKeep (h : RMemAt w m own G a) (K : Option Addr) (kc : Nat) (ks : List Int) (hr : RdF I6 w K ks) (hl : ks.length ≤ kc) (hm : kc ≤ maxLen) (hn : ∀ q, Go.Proofs.Ytoifejinppjeeaa.blk K = some q → own q = 0 ∧ q < w.heap.size) :
    ∃ own', RMemAt (w.setCell ⟨m, 3, none⟩ (.slice K ks.length kc)) m own' G { a with keep := ks } ∧ (∀ k, own' k = if Go.Proofs.Ytoifejinppjeeaa.blk K = some k then 2 else own k) := by
  have hm1 := h.me
  refine ⟨fun k => if Go.Proofs.Ytoifejinppjeeaa.blk K = some k then 2 else own k, ?_, fun k => rfl⟩
  have hs : ∀ q, q ≠ m → (w.setCell ⟨m, 3, none⟩ (.slice K ks.length kc)).heap[q]? = w.heap[q]? := fun q hq => Below.heap_setCell _ _ _ _ (by simpa using hq)
  have ne : ∀ q n, own q = n + 1 → (if Go.Proofs.Ytoifejinppjeeaa.blk K = some q then 2 else own q) = n + 1 := fun q n hq => by
    rw [if_neg]
    · exact hq
    · intro e; have := (hn q e).1; omega
  have nm : ∀ q n, own q = n + 2 → q ≠ m := fun q n hq => by rintro rfl; omega
  obtain ⟨z, K0, kc0, h1, hzf, h2, h3, h4, h5⟩ := h.blk
  refine ⟨⟨z, K, kc, ?_, hzf, rd_same hr fun q hq => hs q ?_, hl, hm, fun q hq => if_pos hq⟩, ⟨rd_same h.row.1 fun q hq => hs q (nm q 0 (h.row.2.2.2 q hq)), h.row.2.1, h.row.2.2.1, fun q hq => ne q 1 (h.row.2.2.2 q hq)⟩, h.len, h.few, fun i hi => ?_, ne m 0 h.me, fun k hk => ?_⟩
  · rw [Go.Joins.block_setCell (i := 3) h1]; simp [rCells]
  · rintro rfl; have := (hn q hq).1; omega
  · exact (h.lines i hi).same (by simp [World.setCell]) fun q hq ho => ⟨hs q (nm q (i + 1) ho), ne q (i + 2) ho⟩
  · have hk' : w.heap.size ≤ k := by simpa [World.setCell] using hk
    show (if _ then _ else _) = _
    rw [if_neg]
    · exact h.fresh k hk'
    · intro e; have := (hn k e).2; omega
/-- A line is another one. -/
theorem RMemAt.setLine (h : RMemAt w m own G a) {i : Nat} (hi : i < a.ls.length) {x : Nat} (hx : G.xs[i]? = some x) (hf : Fr w w' x none) {l' : Ln} (hok : l'.ok) {S' O' : Option Addr} {sc' oc' : Nat}
    (hl : RefAt w' x l'.ss (Go.Proofs.Ytoifejinppjeeaa.mk l'.os l'.fl) S' sc' O' oc') (hn : ∀ q, Go.Proofs.Ytoifejinppjeeaa.blk S' = some q ∨ Go.Proofs.Ytoifejinppjeeaa.blk O' = some q → own q = i + 3 ∧ q < w.heap.size ∨ w.heap.size ≤ q) :
    ∃ own', RMemAt w' m own' G { a with ls := a.ls.set i l' } ∧ MFr w w' own own' := by
  have hxl : i < G.xs.length := h.xlen hi
  have hx2 : G.xs[i] = x := by rw [List.getElem?_eq_getElem hxl] at hx; exact Option.some.inj hx
  have hox : own x = i + 3 := by have := (h.lines i hi).2.1; rw [hx2] at this; exact this
  refine ⟨fun k => if w.heap.size ≤ k then (if Go.Proofs.Ytoifejinppjeeaa.blk S' = some k ∨ Go.Proofs.Ytoifejinppjeeaa.blk O' = some k then i + 3 else 0) else own k, ?_, ?_⟩
  · have lt : ∀ q n, own q = n + 1 → q < w.heap.size := fun q n hq => by
      rcases Nat.lt_or_ge q w.heap.size with h1 | h1
      · exact h1
      · have := h.fresh q h1; omega
    have ow : ∀ q n, own q = n + 1 → (if w.heap.size ≤ q then (if Go.Proofs.Ytoifejinppjeeaa.blk S' = some q ∨ Go.Proofs.Ytoifejinppjeeaa.blk O' = some q then i + 3 else 0) else own q) = n + 1 := fun q n hq => by
      rw [if_neg (by have := lt q n hq; omega)]; exact hq
    have sm : ∀ q n, own q = n + 1 → n ≠ i + 2 → w'.heap[q]? = w.heap[q]? := fun q n hq hne => hf.block q (lt q n hq) (by rintro rfl; omega) (fun e => by cases e)
    obtain ⟨z, K, kc, h1, hzf, h2, h3, h4, h5⟩ := h.blk
    refine ⟨⟨z, K, kc, (sm m 0 h.me (by omega)).trans h1, hzf, rd_same h2 fun q hq => sm q 1 (h5 q hq) (by omega), h3, h4, fun q hq => ow q 1 (h5 q hq)⟩, ⟨rd_same h.row.1 fun q hq => sm q 1 (h.row.2.2.2 q hq) (by omega), h.row.2.1, h.row.2.2.1, fun q hq => ow q 1 (h.row.2.2.2 q hq)⟩, by simpa using h.len, by simpa using h.few, fun j hj => ?_, ow m 0 h.me, fun k hk => ?_⟩
    · have hj' : j < a.ls.length := by simpa using hj
      by_cases e : i = j
      · subst e
        have e2 : (a.ls.set i l')[i] = l' := by simp
        show RLnAt w' _ i (G.xs[i]) ((a.ls.set i l')[i]'hj)
        rw [e2, hx2]
        refine ⟨hok, ow x (i + 2) hox, S', sc', O', oc', hl, fun q hq => ?_⟩
        rcases hn q hq with ⟨h6, _⟩ | h6
        · exact ow q (i + 2) h6
        · show (if _ then _ else _) = _
          rw [if_pos h6, if_pos hq]
      · have e2 : (a.ls.set i l')[j]'hj = a.ls[j] := List.getElem_set_ne e _
        show RLnAt w' _ j (G.xs[j]'(h.xlen hj')) ((a.ls.set i l')[j]'hj)
        rw [e2]
        exact (h.lines j hj').same hf.size fun q hq ho => ⟨sm q (j + 2) ho (by omega), ow q (j + 2) ho⟩
    · show (if _ then _ else _) = _
      rw [if_pos (by have := hf.size; omega)]
      split
      · rename_i e
        rcases e with e | e
        · have := hl.slt k e
          omega
        · have := hl.olt k e
          omega
      · rfl
  · exact ⟨hf.os, hf.tape, hf.output, hf.size, fun k hk h0 => hf.block k hk (by rintro rfl; omega) (fun e => by cases e), fun k hk => if_neg (by omega)⟩
/-- The cells of a memory. -/
theorem RMemAt.cells (h : RMemAt w m own G a) : ∃ z K kc, w.cell? ⟨m, 0, none⟩ = some (.slice G.A G.xs.length G.c) ∧ w.cell? ⟨m, 1, none⟩ = some (.bool a.off) ∧ w.cell? ⟨m, 2, none⟩ = some (.int .i64 z) ∧ w.cell? ⟨m, 3, none⟩ = some (.slice K a.keep.length kc) ∧
    w.cell? ⟨m, 4, none⟩ = some (.int .i64 a.n1) ∧ w.cell? ⟨m, 5, none⟩ = some (.int .i64 a.n2) ∧ w.cell? ⟨m, 6, none⟩ = some (.int .i64 a.n3) ∧ RdF I6 w K a.keep ∧ a.keep.length ≤ kc ∧ kc ≤ maxLen ∧ (∀ q, Go.Proofs.Ytoifejinppjeeaa.blk K = some q → own q = 2) ∧ max z 0 = a.fuse := by
  obtain ⟨z, K, kc, h1, hz, h2, h3, h4, h5⟩ := h.blk
  exact ⟨z, K, kc, Lib.cell_of_heap h1 0, Lib.cell_of_heap h1 1, Lib.cell_of_heap h1 2, Lib.cell_of_heap h1 3, Lib.cell_of_heap h1 4, Lib.cell_of_heap h1 5, Lib.cell_of_heap h1 6, h2, h3, h4, h5, hz⟩
theorem RMemAt.fz (h : RMemAt w m own G a) (i : Nat) : w.frozen? ⟨m, i, none⟩ = false := by
  obtain ⟨z, K, kc, h1, _⟩ := h.blk
  exact Lib.frozen_of_heap h1 i
/-- The place where a line's pointer stands. -/
theorem RMemAt.at_ (h : RMemAt w m own G a) {i : Nat} (hi : i < a.ls.length) : ∃ b off x, G.A = some ⟨b, off, none⟩ ∧ G.xs[i]? = some x ∧ w.cell? ⟨b, off + i, none⟩ = some (.pointer (some ⟨x, 0, none⟩)) ∧ RLnAt w own i x a.ls[i] := by
  have hxl := h.xlen hi
  obtain ⟨b, off, e, hc⟩ := h.row.1.at_ hxl
  exact ⟨b, off, G.xs[i], e, List.getElem?_eq_getElem hxl, hc i hxl, h.lines i hi⟩
end
def RPost (w : World) (m : Nat) (own : Nat → Nat) (G : MG) (a' : AM) (w' : World) : Prop := ∃ own', RMemAt w' m own' G a' ∧ MFr w w' own own'
theorem RPost.trans {w w1 w2 : World} {m : Nat} {own own1 : Nat → Nat} {G : MG} {a2 : AM} (h : MFr w w1 own own1) (k : RPost w1 m own1 G a2 w2) : RPost w m own G a2 w2 := by
  obtain ⟨o, hm, hf⟩ := k
  exact ⟨o, hm, h.trans hf⟩
end Go.Proofs.Ytoifejinppjeeaa
