/- The reference's line in memory, and slices of its stores. Plain laws. Conditions: those of RefAt. -/
import Derived.Test.YtoifejinppjeeaaOkS
import Derived.Test.YtoifejinppjeeaaRegion3
namespace Go.Proofs.Ytoifejinppjeeaa
open Go.RowKit
set_option linter.unusedVariables false
set_option linter.unusedSimpArgs false
abbrev Rs := Int × BitVec 64 × Bool
/-- The stores, of which the first n are flushed. -/
def mk (os : List St) (n : Nat) : List Rs := os.mapIdx fun k s => (s.1, s.2, decide (k < n))
theorem mk_len (os : List St) (n : Nat) : (mk os n).length = os.length := by unfold mk; rw [List.length_mapIdx]
theorem mk_get (os : List St) (n k : Nat) (h : k < os.length) : (mk os n)[k]'(by rw [mk_len]; exact h) = (os[k].1, os[k].2, decide (k < n)) := by
  unfold mk
  rw [List.getElem_mapIdx]
theorem mk_push (os : List St) (n : Nat) (s : St) (h : n ≤ os.length) : mk (os ++ [s]) n = mk os n ++ [(s.1, s.2, false)] := by
  apply List.ext_getElem
  · simp [mk_len]
  · intro k h1 h2
    rw [mk_len, List.length_append] at h1
    simp only [List.length_cons, List.length_nil] at h1
    rw [mk_get _ _ _ (by rw [List.length_append]; simpa using h1)]
    by_cases hk : k < os.length
    · simp only [List.getElem_append_left hk]
      rw [List.getElem_append_left (by rw [mk_len]; exact hk), mk_get _ _ _ hk]
    · have hk2 : k = os.length := by omega
      subst hk2
      simp [mk_len, h]
theorem mk_drop (os : List St) (n : Nat) : (mk os n).drop n = mk (os.drop n) 0 := by
  apply List.ext_getElem
  · simp [mk_len]
  · intro k h1 h2
    rw [mk_len, List.length_drop] at h2
    rw [List.getElem_drop, mk_get _ _ _ (by omega), mk_get _ _ _ (by rw [List.length_drop]; exact h2)]
    simp
theorem mk_flush (os : List St) (k : Nat) (h : k < os.length) : (mk os os.length).take (k + 1) = (mk os os.length).take k ++ [(os[k].1, os[k].2, true)] := by
  rw [List.take_add_one, List.getElem?_eq_getElem (by rw [mk_len]; exact h), mk_get _ _ _ h]
  simp [h]
/-- The cells of such stores. -/
def rsC (os : List Rs) : List Value := os.flatMap fun x => [.int .i64 x.1, U x.2.1, .bool x.2.2]
theorem rsC_len : ∀ os : List Rs, (rsC os).length = os.length * 3
  | [] => rfl
  | x :: os => by
    have h := rsC_len os
    unfold rsC at *
    rw [List.flatMap_cons, List.length_append, h, List.length_cons]
    simp only [List.length_cons, List.length_nil]
    omega
theorem rsC_append (a b : List Rs) : rsC (a ++ b) = rsC a ++ rsC b := by unfold rsC; rw [List.flatMap_append]
theorem rsC_get : ∀ (os : List Rs) (k : Nat) (h : k < os.length), (rsC os)[k * 3]? = some (.int .i64 os[k].1) ∧ (rsC os)[k * 3 + 1]? = some (U os[k].2.1) ∧ (rsC os)[k * 3 + 2]? = some (.bool os[k].2.2)
  | [], k, h => by simp at h
  | x :: os, 0, _ => ⟨rfl, rfl, rfl⟩
  | x :: os, k + 1, h => by
    have h2 := rsC_get os k (by simpa using h)
    have e : rsC (x :: os) = .int .i64 x.1 :: U x.2.1 :: .bool x.2.2 :: rsC os := rfl
    rw [e, show (k + 1) * 3 = k * 3 + 1 + 1 + 1 by omega]
    simp only [List.getElem?_cons_succ, List.getElem_cons_succ]
    exact h2
/-- A slice whose cells read as these stores. -/
def RdR (w : World) (A : Option Addr) (ws : List Rs) : Prop :=
  ws = [] ∨ ∃ b off, A = some ⟨b, off, none⟩ ∧ ∀ k, (h : k < ws.length) → w.cell? ⟨b, off + k * 3, none⟩ = some (.int .i64 ws[k].1) ∧ w.cell? ⟨b, off + k * 3 + 1, none⟩ = some (U ws[k].2.1) ∧ w.cell? ⟨b, off + k * 3 + 2, none⟩ = some (.bool ws[k].2.2)
section
variable {w w' : World} {A : Option Addr} {ws : List Rs}
theorem RdR.below (h : RdR w A ws) (hb : Below w.heap.size w w') : RdR w' A ws := by
  rcases h with h | ⟨b, off, hA, hc⟩
  · exact .inl h
  · exact .inr ⟨b, off, hA, fun k hk => ⟨(hb.cell (p := ⟨b, off + k * 3, none⟩) (cell_lt (hc k hk).1)).trans (hc k hk).1, (hb.cell (p := ⟨b, off + k * 3 + 1, none⟩) (cell_lt (hc k hk).2.1)).trans (hc k hk).2.1, (hb.cell (p := ⟨b, off + k * 3 + 2, none⟩) (cell_lt (hc k hk).2.2)).trans (hc k hk).2.2⟩⟩
theorem RdR.same (h : RdR w A ws) (hb : ∀ q, blk A = some q → q < w.heap.size → w'.heap[q]? = w.heap[q]?) : RdR w' A ws := by
  rcases h with h | ⟨b, off, rfl, hc⟩
  · exact .inl h
  · refine .inr ⟨b, off, rfl, fun k hk => ?_⟩
    have e := hb b rfl (cell_lt (hc k hk).1)
    exact ⟨(World.cell?_of_block (w := w) (a := ⟨b, off + k * 3, none⟩) e).trans (hc k hk).1, (World.cell?_of_block (w := w) (a := ⟨b, off + k * 3 + 1, none⟩) e).trans (hc k hk).2.1, (World.cell?_of_block (w := w) (a := ⟨b, off + k * 3 + 2, none⟩) e).trans (hc k hk).2.2⟩
theorem rdU_same {xs : List (BitVec 64)} (h : RdU w A xs) (hb : ∀ q, blk A = some q → q < w.heap.size → w'.heap[q]? = w.heap[q]?) : RdU w' A xs := by
  rcases h with h | ⟨b, off, rfl, hc⟩
  · exact .inl h
  · refine .inr ⟨b, off, rfl, fun k hk => ?_⟩
    exact (World.cell?_of_block (w := w) (a := ⟨b, off + k, none⟩) (hb b rfl (cell_lt (hc k hk)))).trans (hc k hk)
theorem RdR.at_ (h : RdR w A ws) {k : Nat} (hk : k < ws.length) :
    ∃ b off, A = some ⟨b, off, none⟩ ∧ ∀ k, (h : k < ws.length) → w.cell? ⟨b, off + k * 3, none⟩ = some (.int .i64 ws[k].1) ∧ w.cell? ⟨b, off + k * 3 + 1, none⟩ = some (U ws[k].2.1) ∧ w.cell? ⟨b, off + k * 3 + 2, none⟩ = some (.bool ws[k].2.2) := by
  rcases h with h | h
  · rw [h] at hk; simp at hk
  · exact h
theorem RdR.dropMap (h : RdR w A ws) (n : Nat) : RdR w (A.map (fun p => p.add (n * 3))) (ws.drop n) := by
  rcases h with h | ⟨b, off, rfl, hc⟩
  · left; rw [h]; exact List.drop_nil
  · refine .inr ⟨b, off + n * 3, by simp [Addr.add_lit], fun k hk => ?_⟩
    have hk2 : n + k < ws.length := by simp at hk; omega
    have := hc (n + k) hk2
    rw [List.getElem_drop]
    rw [show off + n * 3 + k * 3 = off + (n + k) * 3 by omega]
    exact this
theorem RdR.lt (h : RdR w A ws) (hne : ws ≠ []) : ∀ q, blk A = some q → q < w.heap.size := by
  rcases h with h | ⟨b, off, rfl, hc⟩
  · exact absurd h hne
  · intro q hq
    cases hq
    exact cell_lt (hc 0 (List.length_pos_iff.2 hne)).1
end
/-- The call's own slice of them. -/
def OwnR (w : World) (base : Nat) (A : Option Addr) (os : List Rs) (c : Nat) : Prop := w.ownsRow base 152 3 (.slice A os.length c) os.length (rsC os)
theorem infoR : (Try.prog.info? 152).map (fun i => (i.zero, i.size, i.bytes)) = some (some (.agg #[.int .i64 0, .int .u64 0, .bool false]), 3, 24) := by kernel_rfl
section
variable {w w' : World} {base c : Nat} {A : Option Addr} {os : List Rs}
theorem OwnR.rd (h : OwnR w base A os c) : RdR w A os := by
  rcases own_rd h with h0 | ⟨b, off, hA, hc⟩
  · left
    have := rsC_len os
    rw [h0] at this
    exact List.eq_nil_of_length_eq_zero (by simp at this; omega)
  · refine .inr ⟨b, off, hA, fun k hk => ?_⟩
    obtain ⟨h1, h2, h3⟩ := rsC_get os k hk
    have hl := rsC_len os
    have g1 := hc (k * 3) (by omega)
    have g2 := hc (k * 3 + 1) (by omega)
    have g3 := hc (k * 3 + 2) (by omega)
    rw [List.getElem?_eq_getElem (by omega)] at h1 h2 h3
    rw [Option.some.inj h1] at g1
    rw [Option.some.inj h2] at g2
    rw [Option.some.inj h3] at g3
    exact ⟨g1, by rw [Nat.add_assoc]; exact g2, by rw [Nat.add_assoc]; exact g3⟩
theorem OwnR.cap (h : OwnR w base A os c) : os.length ≤ c ∧ c ≤ maxLen := own_cap h
theorem OwnR.lt (h : OwnR w base A os c) : ∀ k, blk A = some k → base ≤ k ∧ k < w.heap.size := own_lt h
theorem OwnR.nil_ (w : World) (base : Nat) : OwnR w base none [] 0 := World.ownsRow_nil w base _ 3
theorem OwnR.kept {row : Option Nat} (h : OwnR w base A os c) (hg : w.grownBy w' row) (hne : blk A = none ∨ blk A ≠ row) : OwnR w' base A os c := own_kept h hg hne
theorem OwnR.below (h : OwnR w base A os c) (hb : Below w.heap.size w w') : OwnR w' base A os c := own_below h hb
end
/-- append onto a slice of such stores of the call's own. -/
theorem appR {w : World} {ops : Array Oper} {rest : List Oper} {o : Oper} {a : Act} {Q : Exit → Act → World → Prop} (s x : Operand) (hw : Region.wanted o (yielded ops a.tmps) = true)
    (ho : o.op = .call { callee := .builtin .append, args := #[s, x], argTypes := #[148, 148] })
    (base : Nat) (A : Option Addr) (xs : List Rs) (n c : Nat) (hs : a.eval s = .slice A n c) (hn : n = xs.length) (hown : OwnR w base A xs c)
    (A2 : Option Addr) (ys : List Rs) (m c2 : Nat) (hx : a.eval x = .slice A2 m c2) (hm : m = ys.length) (hr : RdR w A2 ys)
    (hb : xs.length + ys.length ≤ 1048576) (hbase : base ≤ w.heap.size)
    (h : ∀ A' zs c' w', zs = xs ++ ys → OwnR w' base A' zs c' → w.grownBy w' (blk A) → (blk A' = blk A ∨ blk A' = some w.heap.size) → Stop (wpList Try.prog ops Q rest (a.put o.dst (.slice A' zs.length c')) w')) :
    Stop (wpList Try.prog ops Q (o :: rest) a w) := by
  obtain ⟨i, hi, hz0, hz1, hz2⟩ := info_parts infoR
  subst hn hm
  refine wpList_want hw (wp_app s x _ ho base 152 i _ 3 24 Try.underlying148 hi hz0 hz1 hz2 rfl (by omega) (by omega) A xs.length c _ hs hown A2 ys.length c2 (rsC ys) hx (by rw [rsC_len]) ?_ ?_ (by omega) hbase ?_)
  · rcases hr with h0 | ⟨b, off, hA, hc⟩
    · left; rw [h0]; rfl
    · refine .inr ⟨b, off, hA, fun k hk => ?_⟩
      have hl := rsC_len ys
      have hk2 : k / 3 < ys.length := by omega
      obtain ⟨h1, h2, h3⟩ := rsC_get ys (k / 3) hk2
      obtain ⟨g1, g2, g3⟩ := hc (k / 3) hk2
      have e : k % 3 = 0 ∨ k % 3 = 1 ∨ k % 3 = 2 := by omega
      rcases e with e | e | e
      · have ek : k / 3 * 3 = k := by omega
        rw [ek] at h1 g1
        rw [g1, ← h1, List.getElem?_eq_getElem hk]
      · have ek : k / 3 * 3 + 1 = k := by omega
        rw [Nat.add_assoc, ek] at g2
        rw [ek] at h2
        rw [g2, ← h2, List.getElem?_eq_getElem hk]
      · have ek : k / 3 * 3 + 2 = k := by omega
        rw [Nat.add_assoc, ek] at g3
        rw [ek] at h3
        rw [g3, ← h3, List.getElem?_eq_getElem hk]
  · intro u hu
    unfold rsC at hu
    rw [List.mem_flatMap] at hu
    obtain ⟨y, _, hy⟩ := hu
    simp at hy
    rcases hy with rfl | rfl | rfl
    · rfl
    · exact oneCell_U _
    · rfl
  · intro A' c' w' h1 h2 h3
    have := h A' (xs ++ ys) c' w' rfl (by unfold OwnR; rw [List.length_append, rsC_append]; exact h1) h2 h3
    rw [List.length_append] at this
    exact this
/-- The reference's line at block y. -/
structure RefAt (w : World) (y : Nat) (ss : List (BitVec 64)) (rs : List Rs) (S : Option Addr) (sc : Nat) (O : Option Addr) (oc : Nat) : Prop where
  blk : w.heap[y]? = some (.cells #[.slice S 8 sc, .slice O rs.length oc] 150 (0, 0))
  len : ss.length = 8
  sure : RdU w S ss
  opn : RdR w O rs
  sy : Go.Proofs.Ytoifejinppjeeaa.blk S ≠ some y
  oy : Go.Proofs.Ytoifejinppjeeaa.blk O ≠ some y
  cap : 8 ≤ sc ∧ rs.length ≤ oc ∧ oc ≤ maxLen
  olt : ∀ q, Go.Proofs.Ytoifejinppjeeaa.blk O = some q → q < w.heap.size
section
variable {w w' : World} {y sc oc : Nat} {ss : List (BitVec 64)} {rs : List Rs} {S O : Option Addr}
theorem RefAt.c0 (h : RefAt w y ss rs S sc O oc) : w.cell? ⟨y, 0, none⟩ = some (.slice S 8 sc) := by
  rw [Lib.cell_of_heap h.blk 0]; rfl
theorem RefAt.c1 (h : RefAt w y ss rs S sc O oc) : w.cell? ⟨y, 1, none⟩ = some (.slice O rs.length oc) := by
  rw [Lib.cell_of_heap h.blk 1]; rfl
theorem RefAt.fz (h : RefAt w y ss rs S sc O oc) (k : Nat) : w.frozen? ⟨y, k, none⟩ = false := Lib.frozen_of_heap h.blk k
theorem RefAt.lt (h : RefAt w y ss rs S sc O oc) : y < w.heap.size := (Array.getElem?_eq_some_iff.1 h.blk).1
theorem RefAt.slt (h : RefAt w y ss rs S sc O oc) : ∀ q, Go.Proofs.Ytoifejinppjeeaa.blk S = some q → q < w.heap.size := by
  rcases h.sure with h0 | ⟨b, off, rfl, hc⟩
  · have := h.len; rw [h0] at this; cases this
  · intro q hq
    cases hq
    exact cell_lt (hc 0 (by rw [h.len]; omega))
/-- What leaves its blocks leaves it. -/
theorem RefAt.same (h : RefAt w y ss rs S sc O oc) (hs : w.heap.size ≤ w'.heap.size) (h0 : w'.heap[y]? = w.heap[y]?) (h1 : ∀ q, Go.Proofs.Ytoifejinppjeeaa.blk S = some q → w'.heap[q]? = w.heap[q]?) (h2 : ∀ q, Go.Proofs.Ytoifejinppjeeaa.blk O = some q → w'.heap[q]? = w.heap[q]?) : RefAt w' y ss rs S sc O oc :=
  ⟨h0.trans h.blk, h.len, rdU_same h.sure (fun q hq _ => h1 q hq), h.opn.same (fun q hq _ => h2 q hq), h.sy, h.oy, h.cap, fun q hq => Nat.lt_of_lt_of_le (h.olt q hq) hs⟩
theorem RefAt.below (h : RefAt w y ss rs S sc O oc) (hb : Below w.heap.size w w') : RefAt w' y ss rs S sc O oc :=
  h.same hb.size (hb.block y h.lt) (fun q hq => hb.block q (h.slt q hq)) (fun q hq => hb.block q (h.olt q hq))
theorem RefAt.grown (h : RefAt w y ss rs S sc O oc) (hb : w.grownBy w' none) : RefAt w' y ss rs S sc O oc :=
  h.same hb.size (hb.block y h.lt (fun e => by cases e)) (fun q hq => hb.block q (h.slt q hq) (fun e => by cases e)) (fun q hq => hb.block q (h.olt q hq) (fun e => by cases e))
/-- Another row of open stores. -/
theorem RefAt.setOpen {rs' : List Rs} {O' : Option Addr} {oc' : Nat} (h : RefAt w y ss rs S sc O oc) (ho : RdR w O' rs') (hy : Go.Proofs.Ytoifejinppjeeaa.blk O' ≠ some y) (hc : rs'.length ≤ oc' ∧ oc' ≤ maxLen) (hlt : ∀ q, Go.Proofs.Ytoifejinppjeeaa.blk O' = some q → q < w.heap.size) :
    RefAt (w.setCell ⟨y, 1, none⟩ (.slice O' rs'.length oc')) y ss rs' S sc O' oc' := by
  have hb : ∀ q, q ≠ y → (w.setCell ⟨y, 1, none⟩ (.slice O' rs'.length oc')).heap[q]? = w.heap[q]? := fun q hq => Below.heap_setCell _ _ _ _ (by simpa using hq)
  refine ⟨?_, h.len, rdU_same h.sure (fun q hq _ => hb q (fun e => h.sy (by rw [hq, e]))), ho.same (fun q hq _ => hb q (fun e => hy (by rw [hq, e]))), h.sy, hy, ⟨h.cap.1, hc⟩, fun q hq => by have := hlt q hq; simpa [World.setCell] using this⟩
  rw [Go.Joins.block_setCell (i := 1) h.blk]
  rfl
/-- Other words that are sure. -/
theorem RefAt.setSure {ss' : List (BitVec 64)} {S' : Option Addr} {sc' : Nat} (h : RefAt w y ss rs S sc O oc) (ho : RdU w S' ss') (hl : ss'.length = 8) (hy : Go.Proofs.Ytoifejinppjeeaa.blk S' ≠ some y) (hc : 8 ≤ sc') :
    RefAt (w.setCell ⟨y, 0, none⟩ (.slice S' 8 sc')) y ss' rs S' sc' O oc := by
  have hb : ∀ q, q ≠ y → (w.setCell ⟨y, 0, none⟩ (.slice S' 8 sc')).heap[q]? = w.heap[q]? := fun q hq => Below.heap_setCell _ _ _ _ (by simpa using hq)
  refine ⟨?_, hl, rdU_same ho (fun q hq _ => hb q (fun e => hy (by rw [hq, e]))), h.opn.same (fun q hq _ => hb q (fun e => h.oy (by rw [hq, e]))), hy, h.oy, ⟨hc, h.cap.2⟩, fun q hq => by have := h.olt q hq; simpa [World.setCell] using this⟩
  rw [Go.Joins.block_setCell (i := 0) h.blk]
  rfl
end
end Go.Proofs.Ytoifejinppjeeaa
