/- A memory of lines: its abstract state, how it lies in memory, who owns which blocks. Plain laws. No condition. -/
import Derived.Test.YtoifejinppjeeaaLineMore
import Derived.Test.YtoifejinppjeeaaCtx
namespace Go.Proofs.Ytoifejinppjeeaa
open Go.RowKit
set_option linter.unusedVariables false
set_option linter.unusedSimpArgs false
/-- A line: what is sure, what is open, how many are flushed. -/
structure Ln where
  ss : List (BitVec 64)
  os : List St
  fl : Nat
def Ln.ok (l : Ln) : Prop := l.ss.length = 8 ∧ (∀ s ∈ l.os, 0 ≤ s.1 ∧ s.1 < 8) ∧ l.fl ≤ l.os.length
def Ln.store (l : Ln) (z : Int) (v : BitVec 64) : Ln := ⟨l.ss, l.os ++ [(z, v)], l.fl⟩
def Ln.flush (l : Ln) : Ln := ⟨l.ss, l.os, l.os.length⟩
def Ln.fence (l : Ln) : Ln := ⟨doW l.ss (l.os.take l.fl), l.os.drop l.fl, 0⟩
def Ln.fall (l : Ln) (z : Int) : Ln := ⟨doW l.ss (l.os.take (fallN z l.os.length)), [], 0⟩
def Ln.at_ (l : Ln) (z : Int) : BitVec 64 := newest l.ss l.os z
theorem Ln.ok.store {l : Ln} (h : l.ok) {z : Int} {v : BitVec 64} (hz : 0 ≤ z ∧ z < 8) : (l.store z v).ok := by
  refine ⟨h.1, fun s hs => ?_, ?_⟩
  · rcases List.mem_append.1 hs with h1 | h1
    · exact h.2.1 s h1
    · simp at h1; subst h1; exact hz
  · have := h.2.2
    show l.fl ≤ (l.os ++ [(z, v)]).length
    rw [List.length_append]; omega
theorem Ln.ok.flush {l : Ln} (h : l.ok) : l.flush.ok := ⟨h.1, h.2.1, Nat.le_refl _⟩
theorem Ln.ok.fence {l : Ln} (h : l.ok) : l.fence.ok := ⟨(doW_len _ _).trans h.1, fun s hs => h.2.1 s (List.mem_of_mem_drop hs), Nat.zero_le _⟩
theorem Ln.ok.fall {l : Ln} (h : l.ok) (z : Int) : (l.fall z).ok := ⟨(doW_len _ _).trans h.1, (fun s hs => by cases hs), Nat.zero_le _⟩
/-- The memory: its lines, whether there is no power, the fuse, what is to be kept, the counts. -/
structure AM where
  ls : List Ln
  off : Bool
  fuse : Int
  keep : List Int
  n1 : Int
  n2 : Int
  n3 : Int
/-- A fall: of each line's open stores some are kept; what of the list is left. -/
def crashL : List Int → List Ln → List Ln
  | _, [] => []
  | ks, l :: ls => if l.os = [] then l :: crashL ks ls else l.fall (ks.headD 0) :: crashL ks.tail ls
def restK : List Int → List Ln → List Int
  | ks, [] => ks
  | ks, l :: ls => if l.os = [] then restK ks ls else restK ks.tail ls
theorem crashL_append : ∀ (xs : List Ln) (ks : List Int) (ys : List Ln), crashL ks (xs ++ ys) = crashL ks xs ++ crashL (restK ks xs) ys
  | [], _, _ => rfl
  | x :: xs, ks, ys => by
    simp only [List.cons_append, crashL, restK]
    split
    · rw [crashL_append xs]; rfl
    · rw [crashL_append xs]; rfl
theorem restK_append : ∀ (xs : List Ln) (ks : List Int) (ys : List Ln), restK ks (xs ++ ys) = restK (restK ks xs) ys
  | [], _, _ => rfl
  | x :: xs, ks, ys => by
    simp only [List.cons_append, restK]
    split <;> rw [restK_append xs]
theorem crashL_len : ∀ (ls : List Ln) (ks : List Int), (crashL ks ls).length = ls.length
  | [], _ => rfl
  | l :: ls, ks => by
    simp only [crashL]
    split <;> simp [crashL_len ls]
theorem restK_suffix : ∀ (ls : List Ln) (ks : List Int), ∃ j, restK ks ls = ks.drop j
  | [], ks => ⟨0, rfl⟩
  | l :: ls, ks => by
    simp only [restK]
    split
    · exact restK_suffix ls ks
    · obtain ⟨j, h⟩ := restK_suffix ls ks.tail
      exact ⟨j + 1, by rw [h, ← List.drop_one, List.drop_drop, Nat.add_comm]⟩
theorem crashL_ok : ∀ {ls : List Ln} (ks : List Int), (∀ l ∈ ls, l.ok) → ∀ l ∈ crashL ks ls, l.ok
  | [], _, _ => fun l hl => by cases hl
  | x :: ls, ks, h => by
    intro l hl
    simp only [crashL] at hl
    split at hl
    · rcases List.mem_cons.1 hl with e | e
      · subst e; exact h _ (List.mem_cons_self ..)
      · exact crashL_ok ks (fun y hy => h y (List.mem_cons_of_mem _ hy)) l e
    · rcases List.mem_cons.1 hl with e | e
      · subst e; exact (h x (List.mem_cons_self ..)).fall _
      · exact crashL_ok ks.tail (fun y hy => h y (List.mem_cons_of_mem _ hy)) l e
def AM.crash (a : AM) (ks : List Int) : AM := if a.off = true then a else { a with off := true, fuse := 0, ls := crashL ks a.ls }
def AM.burn (a : AM) : AM × Bool := if 0 < a.fuse then (if a.fuse = 1 then (({ a with fuse := 0 } : AM).crash a.keep, false) else ({ a with fuse := a.fuse - 1 }, true)) else (a, true)
def AM.has (a : AM) (z : Int) : Bool := decide (0 ≤ z ∧ z < 8 * (a.ls.length : Int))
def AM.none (a : AM) (z : Int) : Bool := decide (z < 0 ∨ (a.ls.length : Int) ≤ z)
def z0 : Ln := ⟨[], [], 0⟩
def AM.ln (a : AM) (i : Nat) : Ln := a.ls.getD i z0
def AM.store1 (a : AM) (z : Int) (v : BitVec 64) : AM := { a with ls := a.ls.set (z / 8).toNat ((a.ln (z / 8).toNat).store (z % 8) v), n1 := a.n1 + 1 }
def AM.store (a : AM) (z : Int) (v : BitVec 64) : AM × Int :=
  if a.off = true then (a, 14) else if a.has z = false then (a, 1) else if a.burn.2 = false then (a.burn.1, 14) else (a.burn.1.store1 z v, 0)
def AM.at_ (a : AM) (z : Int) : BitVec 64 := (a.ln (z / 8).toNat).at_ (z % 8)
def AM.load (a : AM) (z : Int) : BitVec 64 × Int := if a.off = true then (0#64, 14) else if a.has z = false then (0#64, 1) else (a.at_ z, 0)
def flushL (ls : List Ln) (zs : List Int) : List Ln := zs.foldl (fun ls z => ls.set z.toNat (ls.getD z.toNat z0).flush) ls
def AM.flush (a : AM) (zs : List Int) : AM × Int :=
  if a.off = true then (a, 14) else if zs.any a.none = true then (a, 1) else if a.burn.2 = false then (a.burn.1, 14) else ({ a.burn.1 with ls := flushL a.burn.1.ls zs, n2 := a.burn.1.n2 + 1 }, 0)
def AM.fence (a : AM) : AM × Int :=
  if a.off = true then (a, 14) else if a.burn.2 = false then (a.burn.1, 14) else ({ a.burn.1 with ls := a.burn.1.ls.map Ln.fence, n3 := a.burn.1.n3 + 1 }, 0)
def AM.on (a : AM) : AM := { a with off := false }
def AM.setFuse (a : AM) (z : Int) (ks : List Int) : AM := if a.off = true then a else { a with fuse := max z 0, keep := ks }
def Ln.words (l : Ln) : List (BitVec 64) := (List.range 8).map fun i : Nat => l.at_ (i : Int)
def AM.words (a : AM) : List (BitVec 64) := a.ls.flatMap Ln.words
theorem burn_len (a : AM) : a.burn.1.ls.length = a.ls.length := by
  unfold AM.burn AM.crash
  split
  · split
    · split
      · rfl
      · exact crashL_len _ _
    · rfl
  · rfl
theorem crash_len (a : AM) (ks : List Int) : (a.crash ks).ls.length = a.ls.length := by
  unfold AM.crash
  split
  · rfl
  · exact crashL_len _ _
/-! ### How it lies in memory -/
def ptr (x : Nat) : Value := .pointer (some ⟨x, 0, none⟩)
theorem ptr_one (x : Nat) : (ptr x).oneCell' = true := rfl
def I6 (z : Int) : Value := .int .i64 z
/-- What does not change: where the row of lines is, its reach, the lines' blocks. -/
structure MG where
  A : Option Addr
  c : Nat
  xs : List Nat
/-- The blocks of line i: the line's own, and that of its open stores. -/
def LnAt (w : World) (own : Nat → Nat) (i x : Nat) (l : Ln) : Prop :=
  l.ok ∧ own x = i + 3 ∧ ∃ B d, LineAt w x l.ss l.os B d (l.fl : Int) ∧ ∀ q, blk B = some q → own q = i + 3
def mCells (G : MG) (a : AM) (K : Option Addr) (kc : Nat) : Array Value :=
  #[.slice G.A G.xs.length G.c, .bool a.off, .int .i64 a.fuse, .slice K a.keep.length kc, .int .i64 a.n1, .int .i64 a.n2, .int .i64 a.n3]
/-- A memory at block m. -/
structure MemAt (w : World) (m : Nat) (own : Nat → Nat) (G : MG) (a : AM) : Prop where
  blk : ∃ K kc, w.heap[m]? = some (.cells (mCells G a K kc) 114 (0, 0)) ∧ RdF I6 w K a.keep ∧ a.keep.length ≤ kc ∧ kc ≤ maxLen ∧ ∀ q, Go.Proofs.Ytoifejinppjeeaa.blk K = some q → own q = 2
  row : RdF ptr w G.A G.xs ∧ G.xs.length ≤ G.c ∧ G.c ≤ maxLen ∧ ∀ q, Go.Proofs.Ytoifejinppjeeaa.blk G.A = some q → own q = 2
  len : G.xs.length = a.ls.length
  few : a.ls.length ≤ 1024
  lines : ∀ i, (h : i < a.ls.length) → LnAt w own i (G.xs[i]'(by omega)) a.ls[i]
  me : own m = 1
  fresh : ∀ k, w.heap.size ≤ k → own k = 0
/-- Nothing but the memory's own blocks and new ones may have changed; who owned a block owns it still. -/
structure MFr (w w' : World) (own own' : Nat → Nat) : Prop where
  os : w'.os = w.os
  tape : w'.tape = w.tape
  output : w'.output = w.output
  size : w.heap.size ≤ w'.heap.size
  block : ∀ k, k < w.heap.size → (own k = 0 ∨ own k = 2) → w'.heap[k]? = w.heap[k]?
  kept : ∀ k, k < w.heap.size → own' k = own k
theorem MFr.refl (w : World) (own : Nat → Nat) : MFr w w own own := ⟨rfl, rfl, rfl, Nat.le_refl _, fun _ _ _ => rfl, fun _ _ => rfl⟩
theorem MFr.trans {a b c : World} {o p q : Nat → Nat} (h : MFr a b o p) (k : MFr b c p q) : MFr a c o q :=
  ⟨k.os.trans h.os, k.tape.trans h.tape, k.output.trans h.output, Nat.le_trans h.size k.size,
   fun j hj h0 => (k.block j (Nat.lt_of_lt_of_le hj h.size) (by rw [h.kept j hj]; exact h0)).trans (h.block j hj h0), fun j hj => (k.kept j (Nat.lt_of_lt_of_le hj h.size)).trans (h.kept j hj)⟩
theorem MFr.of_below {w w' : World} (own : Nat → Nat) (h : Below w.heap.size w w') : MFr w w' own own := ⟨h.os, h.tape, h.output, h.size, fun k hk _ => h.block k hk, fun _ _ => rfl⟩
theorem MFr.below {w w' : World} {own own' : Nat → Nat} {B : Nat} (h : MFr w w' own own') (hB : B ≤ w.heap.size) (h0 : ∀ k, k < B → own k = 0) : Below B w w' :=
  ⟨h.os, h.tape, h.output, h.size, fun k hk => h.block k (by omega) (.inl (h0 k hk))⟩
theorem MFr.low {w w' : World} {own own' : Nat → Nat} {B : Nat} (h : MFr w w' own own') (hB : B ≤ w.heap.size) (h0 : ∀ k, k < B → own k = 0) : ∀ k, k < B → own' k = 0 :=
  fun k hk => (h.kept k (by omega)).trans (h0 k hk)
theorem MFr.heap {w w' : World} {own own' : Nat → Nat} {q : Nat} {o : Obj} (h : MFr w w' own own') (hq : w.heap[q]? = some o) (h0 : own q = 0) : w'.heap[q]? = some o ∧ own' q = 0 :=
  ⟨(h.block q (heap_lt hq) (.inl h0)).trans hq, (h.kept q (heap_lt hq)).trans h0⟩
section
variable {w w' : World} {own own' : Nat → Nat} {m : Nat} {G : MG} {a a' : AM}
/-- Cells of blocks that are as they were. -/
theorem cell_same {p : Nat} (h : w'.heap[p]? = w.heap[p]?) (i : Nat) : w'.cell? ⟨p, i, none⟩ = w.cell? ⟨p, i, none⟩ := World.cell?_of_block h
theorem rd_same {α : Type} {f : α → Value} {A : Option Addr} {xs : List α} (h : RdF f w A xs) (hs : ∀ q, blk A = some q → w'.heap[q]? = w.heap[q]?) : RdF f w' A xs := by
  rcases h with h | ⟨b, off, rfl, hc⟩
  · exact .inl h
  · exact .inr ⟨b, off, rfl, fun k hk => (cell_same (hs b rfl) _).trans (hc k hk)⟩
theorem own_same {base n c size : Nat} {e : TypeId} {A : Option Addr} {cs : List Value} (h : w.ownsRow base e size (.slice A n c) n cs) (hs : ∀ q, blk A = some q → w'.heap[q]? = w.heap[q]?) : w'.ownsRow base e size (.slice A n c) n cs := by
  refine ⟨h.1, ?_⟩
  rcases h.2 with hn | ⟨g, cap, cur, hv, hg, hh, r⟩
  · exact .inl hn
  · injection hv with hA
    exact .inr ⟨g, cap, cur, by rw [hA]; simp_all, hg, (hs g (by rw [hA]; rfl)).trans hh, r⟩
theorem LineAt.same {x d : Nat} {ss : List (BitVec 64)} {os : List St} {B : Option Addr} {fl : Int} (h : LineAt w x ss os B d fl) (hs : ∀ q, q = x ∨ Go.Proofs.Ytoifejinppjeeaa.blk B = some q → w'.heap[q]? = w.heap[q]?) : LineAt w' x ss os B d fl :=
  ⟨(hs x (.inl rfl)).trans h.blk, h.len, own_same h.own fun q hq => hs q (.inr hq)⟩
theorem LnAt.same {i x : Nat} {l : Ln} (h : LnAt w own i x l) (hs : ∀ q, q < w.heap.size → own q = i + 3 → w'.heap[q]? = w.heap[q]? ∧ own' q = i + 3) : LnAt w' own' i x l := by
  obtain ⟨hok, ho, B, d, hl, hb⟩ := h
  refine ⟨hok, (hs x hl.lt ho).2, B, d, hl.same fun q hq => ?_, fun q hq => (hs q (hl.own.lt q hq).2 (hb q hq)).2⟩
  rcases hq with rfl | hq
  · exact (hs q hl.lt ho).1
  · exact (hs q (hl.own.lt q hq).2 (hb q hq)).1
/-- What leaves the memory's blocks leaves the memory. -/
theorem MemAt.same (h : MemAt w m own G a) (hz : w.heap.size ≤ w'.heap.size) (hs : ∀ q, q < w.heap.size → own q ≠ 0 → w'.heap[q]? = w.heap[q]?) : MemAt w' m own G a := by
  have lt : ∀ q, own q ≠ 0 → q < w.heap.size := fun q hq => by
    rcases Nat.lt_or_ge q w.heap.size with h1 | h1
    · exact h1
    · exact absurd (h.fresh q h1) hq
  have sm : ∀ q n, own q = n + 1 → w'.heap[q]? = w.heap[q]? := fun q n hq => hs q (lt q (by omega)) (by omega)
  obtain ⟨K, kc, h1, h2, h3, h4, h5⟩ := h.blk
  refine ⟨⟨K, kc, (sm m 0 h.me).trans h1, rd_same h2 fun q hq => sm q 1 (h5 q hq), h3, h4, h5⟩, ⟨rd_same h.row.1 fun q hq => sm q 1 (h.row.2.2.2 q hq), h.row.2⟩, h.len, h.few, fun i hi => ?_, h.me, fun k hk => h.fresh k (by omega)⟩
  exact (h.lines i hi).same fun q hq ho => ⟨sm q (i + 2) ho, ho⟩
theorem MemAt.below (h : MemAt w m own G a) (hb : Below w.heap.size w w') : MemAt w' m own G a := h.same hb.size fun q hq _ => hb.block q hq
theorem MemAt.drewN (h : MemAt w m own G a) (n : Nat) : MemAt (w.drewN n) m own G a := h.below ((Drawn.some_ w n).below _)
theorem MemAt.lt (h : MemAt w m own G a) : m < w.heap.size := by
  obtain ⟨K, kc, h1, _⟩ := h.blk
  exact heap_lt h1
theorem MemAt.tag (h : MemAt w m own G a) {q n : Nat} (hq : own q = n + 1) : q < w.heap.size := by
  rcases Nat.lt_or_ge q w.heap.size with h1 | h1
  · exact h1
  · have := h.fresh q h1; omega
/-- What the memory keeps can be read behind whatever its calls have done. -/
theorem MemAt.keeps (h : MemAt w m own G a) {K : Option Addr} {ks : List Int} (hk : RdF I6 w K ks) (ho : ∀ q, Go.Proofs.Ytoifejinppjeeaa.blk K = some q → own q = 2) {W : World} {own2 : Nat → Nat} (hf : MFr w W own own2) : RdF I6 W K ks :=
  rd_same hk fun q hq => hf.block q (h.tag (ho q hq)) (.inr (ho q hq))
theorem MemAt.xlen (h : MemAt w m own G a) {i : Nat} (hi : i < a.ls.length) : i < G.xs.length := by rw [h.len]; exact hi
/-- One of the memory's own cells is written. -/
theorem MemAt.reM (h : MemAt w m own G a) (hz : w'.heap.size = w.heap.size) (hs : ∀ q, q ≠ m → w'.heap[q]? = w.heap[q]?) (hl : a'.ls = a.ls) (hk : a'.keep = a.keep)
    (hc : ∀ K kc, w.heap[m]? = some (.cells (mCells G a K kc) 114 (0, 0)) → w'.heap[m]? = some (.cells (mCells G a' K kc) 114 (0, 0))) : MemAt w' m own G a' := by
  have hm := h.me
  obtain ⟨K, kc, h1, h2, h3, h4, h5⟩ := h.blk
  refine ⟨⟨K, kc, hc K kc h1, ?_, by rw [hk]; exact h3, h4, h5⟩, ⟨rd_same h.row.1 fun q hq => hs q ?_, h.row.2⟩, by rw [hl]; exact h.len, by rw [hl]; exact h.few, fun i hi => ?_, h.me, fun k hk => h.fresh k (by omega)⟩
  · rw [hk]
    refine rd_same h2 fun q hq => hs q ?_
    rintro rfl
    have := h5 q hq
    omega
  · rintro rfl
    have := h.row.2.2.2 q hq
    omega
  · have hi' : i < a.ls.length := by rw [← hl]; exact hi
    have e : a'.ls[i] = a.ls[i]'hi' := by simp [hl]
    rw [e]
    exact (h.lines i hi').same fun q hq ho => ⟨hs q (by rintro rfl; omega), ho⟩
theorem reM_fr (h : MemAt w m own G a) {i : Nat} {v : Value} : MFr w (w.setCell ⟨m, i, none⟩ v) own own :=
  ⟨rfl, rfl, rfl, by simp [World.setCell], fun k _ h0 => Below.heap_setCell _ _ _ _ (by simp; rintro rfl; have := h.me; omega), fun _ _ => rfl⟩
theorem MemAt.setOff (h : MemAt w m own G a) (b : Bool) : MemAt (w.setCell ⟨m, 1, none⟩ (.bool b)) m own G { a with off := b } :=
  h.reM (by simp [World.setCell]) (fun q hq => Below.heap_setCell _ _ _ _ (by simpa using hq)) rfl rfl fun K kc hc => by
    rw [Go.Joins.block_setCell (i := 1) hc]; simp [mCells]
theorem MemAt.setFuse (h : MemAt w m own G a) (z : Int) : MemAt (w.setCell ⟨m, 2, none⟩ (.int .i64 z)) m own G { a with fuse := z } :=
  h.reM (by simp [World.setCell]) (fun q hq => Below.heap_setCell _ _ _ _ (by simpa using hq)) rfl rfl fun K kc hc => by
    rw [Go.Joins.block_setCell (i := 2) hc]; simp [mCells]
theorem MemAt.setN1 (h : MemAt w m own G a) (z : Int) : MemAt (w.setCell ⟨m, 4, none⟩ (.int .i64 z)) m own G { a with n1 := z } :=
  h.reM (by simp [World.setCell]) (fun q hq => Below.heap_setCell _ _ _ _ (by simpa using hq)) rfl rfl fun K kc hc => by
    rw [Go.Joins.block_setCell (i := 4) hc]; simp [mCells]
theorem MemAt.setN2 (h : MemAt w m own G a) (z : Int) : MemAt (w.setCell ⟨m, 5, none⟩ (.int .i64 z)) m own G { a with n2 := z } :=
  h.reM (by simp [World.setCell]) (fun q hq => Below.heap_setCell _ _ _ _ (by simpa using hq)) rfl rfl fun K kc hc => by
    rw [Go.Joins.block_setCell (i := 5) hc]; simp [mCells]
theorem MemAt.setN3 (h : MemAt w m own G a) (z : Int) : MemAt (w.setCell ⟨m, 6, none⟩ (.int .i64 z)) m own G { a with n3 := z } :=
  h.reM (by simp [World.setCell]) (fun q hq => Below.heap_setCell _ _ _ _ (by simpa using hq)) rfl rfl fun K kc hc => by
    rw [Go.Joins.block_setCell (i := 6) hc]; simp [mCells]
/-- Another row of numbers to keep, in a new block. -/
theorem MemAt.setKeep (h : MemAt w m own G a) (K : Option Addr) (kc : Nat) (ks : List Int) (hr : RdF I6 w K ks) (hl : ks.length ≤ kc) (hm : kc ≤ maxLen) (hn : ∀ q, Go.Proofs.Ytoifejinppjeeaa.blk K = some q → own q = 0 ∧ q < w.heap.size) :
    ∃ own', MemAt (w.setCell ⟨m, 3, none⟩ (.slice K ks.length kc)) m own' G { a with keep := ks } ∧ (∀ k, own' k = if Go.Proofs.Ytoifejinppjeeaa.blk K = some k then 2 else own k) := by
  have hm1 := h.me
  refine ⟨fun k => if Go.Proofs.Ytoifejinppjeeaa.blk K = some k then 2 else own k, ?_, fun k => rfl⟩
  have hs : ∀ q, q ≠ m → (w.setCell ⟨m, 3, none⟩ (.slice K ks.length kc)).heap[q]? = w.heap[q]? := fun q hq => Below.heap_setCell _ _ _ _ (by simpa using hq)
  have ne : ∀ q n, own q = n + 1 → (if Go.Proofs.Ytoifejinppjeeaa.blk K = some q then 2 else own q) = n + 1 := fun q n hq => by
    rw [if_neg]
    · exact hq
    · intro e; have := (hn q e).1; omega
  have nm : ∀ q n, own q = n + 2 → q ≠ m := fun q n hq => by rintro rfl; omega
  obtain ⟨K0, kc0, h1, h2, h3, h4, h5⟩ := h.blk
  refine ⟨⟨K, kc, ?_, rd_same hr fun q hq => hs q ?_, hl, hm, fun q hq => if_pos hq⟩, ⟨rd_same h.row.1 fun q hq => hs q (nm q 0 (h.row.2.2.2 q hq)), h.row.2.1, h.row.2.2.1, fun q hq => ne q 1 (h.row.2.2.2 q hq)⟩, h.len, h.few, fun i hi => ?_, ne m 0 h.me, fun k hk => ?_⟩
  · rw [Go.Joins.block_setCell (i := 3) h1]; simp [mCells]
  · rintro rfl; have := (hn q hq).1; omega
  · exact (h.lines i hi).same fun q hq ho => ⟨hs q (nm q (i + 1) ho), ne q (i + 2) ho⟩
  · have hk' : w.heap.size ≤ k := by simpa [World.setCell] using hk
    show (if _ then _ else _) = _
    rw [if_neg]
    · exact h.fresh k hk'
    · intro e; have := (hn k e).2; omega
/-- A line is another one. -/
theorem MemAt.setLine (h : MemAt w m own G a) {i : Nat} (hi : i < a.ls.length) {x : Nat} (hx : G.xs[i]? = some x) {q0 : Option Nat} (hq0 : ∀ q, q0 = some q → own q = i + 3) (hf : Fr w w' x q0) {l' : Ln} (hok : l'.ok) {B' : Option Addr} {d' : Nat}
    (hl : LineAt w' x l'.ss l'.os B' d' (l'.fl : Int)) (hn : ∀ q, Go.Proofs.Ytoifejinppjeeaa.blk B' = some q → own q = i + 3 ∧ q < w.heap.size ∨ w.heap.size ≤ q) :
    ∃ own', MemAt w' m own' G { a with ls := a.ls.set i l' } ∧ MFr w w' own own' := by
  have hxl : i < G.xs.length := h.xlen hi
  have hx2 : G.xs[i] = x := by rw [List.getElem?_eq_getElem hxl] at hx; exact Option.some.inj hx
  have hox : own x = i + 3 := by have := (h.lines i hi).2.1; rw [hx2] at this; exact this
  refine ⟨fun k => if w.heap.size ≤ k then (if Go.Proofs.Ytoifejinppjeeaa.blk B' = some k then i + 3 else 0) else own k, ?_, ?_⟩
  · have lt : ∀ q n, own q = n + 1 → q < w.heap.size := fun q n hq => by
      rcases Nat.lt_or_ge q w.heap.size with h1 | h1
      · exact h1
      · have := h.fresh q h1; omega
    have ow : ∀ q n, own q = n + 1 → (if w.heap.size ≤ q then (if Go.Proofs.Ytoifejinppjeeaa.blk B' = some q then i + 3 else 0) else own q) = n + 1 := fun q n hq => by
      rw [if_neg (by have := lt q n hq; omega)]; exact hq
    have sm : ∀ q n, own q = n + 1 → n ≠ i + 2 → w'.heap[q]? = w.heap[q]? := fun q n hq hne => hf.block q (lt q n hq) (by rintro rfl; omega) (fun e => by have := hq0 q e; omega)
    obtain ⟨K, kc, h1, h2, h3, h4, h5⟩ := h.blk
    refine ⟨⟨K, kc, (sm m 0 h.me (by omega)).trans h1, rd_same h2 fun q hq => sm q 1 (h5 q hq) (by omega), h3, h4, fun q hq => ow q 1 (h5 q hq)⟩, ⟨rd_same h.row.1 fun q hq => sm q 1 (h.row.2.2.2 q hq) (by omega), h.row.2.1, h.row.2.2.1, fun q hq => ow q 1 (h.row.2.2.2 q hq)⟩, by simpa using h.len, by simpa using h.few, fun j hj => ?_, ow m 0 h.me, fun k hk => ?_⟩
    · have hj' : j < a.ls.length := by simpa using hj
      by_cases e : i = j
      · subst e
        have e2 : (a.ls.set i l')[i] = l' := by simp
        show LnAt w' _ i (G.xs[i]) ((a.ls.set i l')[i]'hj)
        rw [e2, hx2]
        refine ⟨hok, ow x (i + 2) hox, B', d', hl, fun q hq => ?_⟩
        rcases hn q hq with ⟨h6, _⟩ | h6
        · exact ow q (i + 2) h6
        · show (if _ then _ else _) = _
          rw [if_pos h6, if_pos hq]
      · have e2 : (a.ls.set i l')[j]'hj = a.ls[j] := List.getElem_set_ne e _
        show LnAt w' _ j (G.xs[j]'(h.xlen hj')) ((a.ls.set i l')[j]'hj)
        rw [e2]
        exact (h.lines j hj').same fun q hq ho => ⟨sm q (j + 2) ho (by omega), ow q (j + 2) ho⟩
    · show (if _ then _ else _) = _
      rw [if_pos (by have := hf.size; omega)]
      split
      · rename_i e
        have := (hl.own.lt k e).2
        omega
      · rfl
  · exact ⟨hf.os, hf.tape, hf.output, hf.size, fun k hk h0 => hf.block k hk (by rintro rfl; omega) (fun e => by have := hq0 k e; omega), fun k hk => if_neg (by omega)⟩
/-- The cells of a memory. -/
theorem MemAt.cells (h : MemAt w m own G a) : ∃ K kc, w.cell? ⟨m, 0, none⟩ = some (.slice G.A G.xs.length G.c) ∧ w.cell? ⟨m, 1, none⟩ = some (.bool a.off) ∧ w.cell? ⟨m, 2, none⟩ = some (.int .i64 a.fuse) ∧ w.cell? ⟨m, 3, none⟩ = some (.slice K a.keep.length kc) ∧
    w.cell? ⟨m, 4, none⟩ = some (.int .i64 a.n1) ∧ w.cell? ⟨m, 5, none⟩ = some (.int .i64 a.n2) ∧ w.cell? ⟨m, 6, none⟩ = some (.int .i64 a.n3) ∧ RdF I6 w K a.keep ∧ a.keep.length ≤ kc ∧ kc ≤ maxLen ∧ (∀ q, Go.Proofs.Ytoifejinppjeeaa.blk K = some q → own q = 2) := by
  obtain ⟨K, kc, h1, h2, h3, h4, h5⟩ := h.blk
  exact ⟨K, kc, Lib.cell_of_heap h1 0, Lib.cell_of_heap h1 1, Lib.cell_of_heap h1 2, Lib.cell_of_heap h1 3, Lib.cell_of_heap h1 4, Lib.cell_of_heap h1 5, Lib.cell_of_heap h1 6, h2, h3, h4, h5⟩
theorem MemAt.fz (h : MemAt w m own G a) (i : Nat) : w.frozen? ⟨m, i, none⟩ = false := by
  obtain ⟨K, kc, h1, _⟩ := h.blk
  exact Lib.frozen_of_heap h1 i
/-- The place where a line's pointer stands. -/
theorem MemAt.at_ (h : MemAt w m own G a) {i : Nat} (hi : i < a.ls.length) : ∃ b off x, G.A = some ⟨b, off, none⟩ ∧ G.xs[i]? = some x ∧ w.cell? ⟨b, off + i, none⟩ = some (.pointer (some ⟨x, 0, none⟩)) ∧ LnAt w own i x (a.ln i) := by
  have hxl := h.xlen hi
  obtain ⟨b, off, e, hc⟩ := h.row.1.at_ hxl
  refine ⟨b, off, G.xs[i], e, List.getElem?_eq_getElem hxl, hc i hxl, ?_⟩
  have e2 : a.ln i = a.ls[i] := by unfold AM.ln; rw [List.getD_eq_getElem?_getD, List.getElem?_eq_getElem hi]; rfl
  rw [e2]
  exact h.lines i hi
end
end Go.Proofs.Ytoifejinppjeeaa
