/- A line in memory, and slices of its stores. Plain laws. Conditions: those of LineAt. -/
import Derived.Test.YtoifejinppjeeaaWrites
import Derived.Test.YtoifejinppjeeaaGen
import Derived.Lib.SmallJoins
import Derived.Lib.Builder
import Derived.RangeFuncBox
namespace Go.Proofs.Ytoifejinppjeeaa
open Go.RowKit
set_option linter.unusedVariables false
set_option linter.unusedSimpArgs false
abbrev St := Int × BitVec 64
/-- The cells of stores. -/
def stC (os : List St) : List Value := os.flatMap fun x => [.int .i64 x.1, U x.2]
theorem stC_len : ∀ os : List St, (stC os).length = os.length * 2
  | [] => rfl
  | x :: os => by
    have h := stC_len os
    unfold stC at *
    rw [List.flatMap_cons, List.length_append, h, List.length_cons]
    simp only [List.length_cons, List.length_nil]
    omega
theorem stC_append (a b : List St) : stC (a ++ b) = stC a ++ stC b := by unfold stC; rw [List.flatMap_append]
theorem stC_get : ∀ (os : List St) (k : Nat) (h : k < os.length), (stC os)[k * 2]? = some (.int .i64 os[k].1) ∧ (stC os)[k * 2 + 1]? = some (U os[k].2)
  | [], k, h => by simp at h
  | x :: os, 0, _ => ⟨rfl, rfl⟩
  | x :: os, k + 1, h => by
    have h2 := stC_get os k (by simpa using h)
    have e : stC (x :: os) = .int .i64 x.1 :: U x.2 :: stC os := rfl
    rw [e, show (k + 1) * 2 = k * 2 + 1 + 1 by omega, List.getElem?_cons_succ, List.getElem?_cons_succ, List.getElem?_cons_succ, List.getElem?_cons_succ]
    exact h2
/-- The call's own slice of stores. -/
def OwnS (w : World) (base : Nat) (A : Option Addr) (os : List St) (c : Nat) : Prop := w.ownsRow base 145 2 (.slice A os.length c) os.length (stC os)
theorem infoS : (Try.prog.info? 145).map (fun i => (i.zero, i.size, i.bytes)) = some (some (.agg #[.int .i64 0, .int .u64 0]), 2, 16) := by kernel_rfl
theorem grownBy_setAt (W : World) (b i : Nat) (v : Value) : W.grownBy (W.setCell ⟨b, i, none⟩ v) (some b) :=
  ⟨rfl, rfl, rfl, by simp [World.setCell], fun k _ hne => Below.heap_setCell _ _ _ _ (fun e => hne (by rw [e]))⟩
section
variable {w w' : World} {base c : Nat} {A : Option Addr} {os : List St}
theorem OwnS.rd (h : OwnS w base A os c) : RdW w A os := by
  rcases own_rd h with h0 | ⟨b, off, hA, hc⟩
  · left
    have := stC_len os
    rw [h0] at this
    exact List.eq_nil_of_length_eq_zero (by simp at this; omega)
  · refine .inr ⟨b, off, hA, fun k hk => ?_⟩
    obtain ⟨h1, h2⟩ := stC_get os k hk
    have hl := stC_len os
    have g1 := hc (k * 2) (by omega)
    have g2 := hc (k * 2 + 1) (by omega)
    rw [List.getElem?_eq_getElem (by omega)] at h1 h2
    rw [Option.some.inj h1] at g1
    rw [Option.some.inj h2] at g2
    exact ⟨g1, by rw [Nat.add_assoc]; exact g2⟩
theorem OwnS.cap (h : OwnS w base A os c) : os.length ≤ c ∧ c ≤ maxLen := own_cap h
theorem OwnS.lt (h : OwnS w base A os c) : ∀ k, blk A = some k → base ≤ k ∧ k < w.heap.size := own_lt h
theorem OwnS.nil_ (w : World) (base : Nat) : OwnS w base none [] 0 := World.ownsRow_nil w base _ 2
theorem OwnS.kept {row : Option Nat} (h : OwnS w base A os c) (hg : w.grownBy w' row) (hne : blk A = none ∨ blk A ≠ row) : OwnS w' base A os c := own_kept h hg hne
theorem OwnS.le {b' : Nat} (h : OwnS w base A os c) (hb : b' ≤ base) : OwnS w b' A os c := Go.Joins.ownsRow_le h hb
end
/-- append onto a slice of stores of the call's own. -/
theorem appS {w : World} {ops : Array Oper} {rest : List Oper} {o : Oper} {a : Act} {Q : Exit → Act → World → Prop} (s x : Operand) (hw : Region.wanted o (yielded ops a.tmps) = true)
    (ho : o.op = .call { callee := .builtin .append, args := #[s, x], argTypes := #[140, 140] })
    (base : Nat) (A : Option Addr) (xs : List St) (n c : Nat) (hs : a.eval s = .slice A n c) (hn : n = xs.length) (hown : OwnS w base A xs c)
    (A2 : Option Addr) (ys : List St) (m c2 : Nat) (hx : a.eval x = .slice A2 m c2) (hm : m = ys.length) (hr : RdW w A2 ys)
    (hb : xs.length + ys.length ≤ 1048576) (hbase : base ≤ w.heap.size)
    (h : ∀ A' zs c' w', zs = xs ++ ys → OwnS w' base A' zs c' → w.grownBy w' (blk A) → (blk A' = blk A ∨ blk A' = some w.heap.size) → Stop (wpList Try.prog ops Q rest (a.put o.dst (.slice A' zs.length c')) w')) :
    Stop (wpList Try.prog ops Q (o :: rest) a w) := by
  obtain ⟨i, hi, hz0, hz1, hz2⟩ := info_parts infoS
  subst hn hm
  refine wpList_want hw (wp_app s x _ ho base 145 i _ 2 16 Try.underlying140 hi hz0 hz1 hz2 rfl (by omega) (by omega) A xs.length c _ hs hown A2 ys.length c2 (stC ys) hx (by rw [stC_len]) ?_ ?_ (by omega) hbase ?_)
  · rcases hr with h0 | ⟨b, off, hA, hc⟩
    · left; rw [h0]; rfl
    · refine .inr ⟨b, off, hA, fun k hk => ?_⟩
      have hl := stC_len ys
      have hk2 : k / 2 < ys.length := by omega
      obtain ⟨h1, h2⟩ := stC_get ys (k / 2) hk2
      obtain ⟨g1, g2⟩ := hc (k / 2) hk2
      rcases Nat.mod_two_eq_zero_or_one k with e | e
      · have ek : k / 2 * 2 = k := by omega
        rw [ek] at h1 g1
        rw [g1, ← h1, List.getElem?_eq_getElem hk]
      · have ek : k / 2 * 2 + 1 = k := by omega
        rw [Nat.add_assoc, ek] at g2
        rw [ek] at h2
        rw [g2, ← h2, List.getElem?_eq_getElem hk]
  · intro u hu
    unfold stC at hu
    rw [List.mem_flatMap] at hu
    obtain ⟨y, _, hy⟩ := hu
    simp at hy
    rcases hy with rfl | rfl
    · rfl
    · exact oneCell_U _
  · intro A' c' w' h1 h2 h3
    have := h A' (xs ++ ys) c' w' rfl (by unfold OwnS; rw [List.length_append, stC_append]; exact h1) h2 h3
    rw [List.length_append] at this
    exact this
/-- A line that stands at block x: what is sure, what is open, how many are flushed. -/
structure LineAt (w : World) (x : Nat) (ss : List (BitVec 64)) (os : List St) (B : Option Addr) (d : Nat) (fl : Int) : Prop where
  blk : w.heap[x]? = some (.cells ((ss.map U ++ [Value.slice B os.length d, Value.int .i64 fl]).toArray) 143 (0, 0))
  len : ss.length = 8
  own : OwnS w (x + 1) B os d
section
variable {w w' : World} {x d : Nat} {ss : List (BitVec 64)} {os : List St} {B : Option Addr} {fl : Int}
theorem LineAt.c8 (h : LineAt w x ss os B d fl) : w.cell? ⟨x, 8, none⟩ = some (.slice B os.length d) := by
  have e := Lib.cell_of_heap h.blk 8
  rw [e]
  simp [h.len]
theorem LineAt.c9 (h : LineAt w x ss os B d fl) : w.cell? ⟨x, 9, none⟩ = some (.int .i64 fl) := by
  have e := Lib.cell_of_heap h.blk 9
  rw [e]
  simp [h.len]
theorem LineAt.cs (h : LineAt w x ss os B d fl) (k : Nat) (hk : k < ss.length) : w.cell? ⟨x, k, none⟩ = some (U ss[k]) := by
  have e := Lib.cell_of_heap h.blk k
  rw [e, List.getElem?_toArray, List.getElem?_append_left (by simpa using hk), List.getElem?_map, List.getElem?_eq_getElem hk]
  rfl
theorem LineAt.fz (h : LineAt w x ss os B d fl) (k : Nat) : w.frozen? ⟨x, k, none⟩ = false := Lib.frozen_of_heap h.blk k
theorem LineAt.lt (h : LineAt w x ss os B d fl) : x < w.heap.size := (Array.getElem?_eq_some_iff.1 h.blk).1
theorem LineAt.bne (h : LineAt w x ss os B d fl) : Go.Proofs.Ytoifejinppjeeaa.blk B ≠ some x := fun e => by have := (h.own.lt x e).1; omega
/-- What leaves the line's own blocks leaves the line. -/
theorem LineAt.kept {row : Option Nat} (h : LineAt w x ss os B d fl) (hg : w.grownBy w' row) (h1 : row ≠ some x) (h2 : Go.Proofs.Ytoifejinppjeeaa.blk B = none ∨ Go.Proofs.Ytoifejinppjeeaa.blk B ≠ row) : LineAt w' x ss os B d fl :=
  ⟨(hg.block x h.lt (fun e => h1 e.symm)).trans h.blk, h.len, h.own.kept hg h2⟩
theorem LineAt.below (h : LineAt w x ss os B d fl) (hb : Below w.heap.size w w') : LineAt w' x ss os B d fl :=
  ⟨(hb.block x h.lt).trans h.blk, h.len, own_below h.own hb⟩
/-- Another row of stores is laid into the line. -/
theorem LineAt.setOpen {os' : List St} {B' : Option Addr} {d' : Nat} (hb : w.heap[x]? = some (.cells ((ss.map U ++ [Value.slice B os.length d, Value.int .i64 fl]).toArray) 143 (0, 0))) (hl : ss.length = 8) (ho : OwnS w (x + 1) B' os' d') :
    LineAt (w.setCell ⟨x, 8, none⟩ (.slice B' os'.length d')) x ss os' B' d' fl := by
  refine ⟨?_, hl, ho.kept (grownBy_setAt w x 8 _) ?_⟩
  · rw [Go.Joins.block_setCell (i := 8) hb]
    simp [hl]
  · cases hB : Go.Proofs.Ytoifejinppjeeaa.blk B' with
    | none => exact .inl rfl
    | some q => exact .inr (fun e => by cases e; have := (ho.lt _ hB).1; omega)
theorem LineAt.setFl (h : LineAt w x ss os B d fl) (m : Int) : LineAt (w.setCell ⟨x, 9, none⟩ (.int .i64 m)) x ss os B d m := by
  refine ⟨?_, h.len, h.own.kept (grownBy_setAt w x 9 _) ?_⟩
  · rw [Go.Joins.block_setCell (i := 9) h.blk]
    simp [h.len]
  · cases hB : Go.Proofs.Ytoifejinppjeeaa.blk B with
    | none => exact .inl rfl
    | some q => exact .inr (fun e => by cases e; have := (h.own.lt _ hB).1; omega)
theorem LineAt.setSure (h : LineAt w x ss os B d fl) (k : Nat) (hk : k < 8) (v : BitVec 64) : LineAt (w.setCell ⟨x, k, none⟩ (U v)) x (ss.set k v) os B d fl := by
  have hk2 : k < ss.length := by rw [h.len]; exact hk
  refine ⟨?_, by rw [List.length_set, h.len], h.own.kept (grownBy_setAt w x k _) ?_⟩
  · rw [Go.Joins.block_setCell (i := k) h.blk]
    rw [List.setIfInBounds_toArray, List.set_append_left (h := by simpa using hk2), ← List.map_set]
  · cases hB : Go.Proofs.Ytoifejinppjeeaa.blk B with
    | none => exact .inl rfl
    | some q => exact .inr (fun e => by cases e; have := (h.own.lt _ hB).1; omega)
end
/-- Only the blocks x, q and new ones may have changed. -/
structure Fr (w w' : World) (x : Nat) (q : Option Nat) : Prop where
  os : w'.os = w.os
  tape : w'.tape = w.tape
  output : w'.output = w.output
  size : w.heap.size ≤ w'.heap.size
  block : ∀ k, k < w.heap.size → k ≠ x → q ≠ some k → w'.heap[k]? = w.heap[k]?
theorem Fr.below {w w' : World} {x b : Nat} {q : Option Nat} (h : Fr w w' x q) (hx : b ≤ x) (hs : b ≤ w.heap.size) (hq : ∀ k, q = some k → b ≤ k) : Below b w w' :=
  ⟨h.os, h.tape, h.output, h.size, fun k hk => h.block k (by omega) (by omega) (fun e => by have := hq k e; omega)⟩
end Go.Proofs.Ytoifejinppjeeaa
