/- Slices of writes of the call's own; append onto them; one such slice as a list. No condition. -/
import Derived.Test.YtoifejinppjeeaaWrites
import Derived.Test.YtoifejinppjeeaaCtx
namespace Go.Proofs.Ytoifejinppjeeaa
open Go.RowKit
set_option linter.unusedVariables false
set_option linter.unusedSimpArgs false
theorem RdW.drew {w : World} {A : Option Addr} {rs : List (Int × BitVec 64)} (h : RdW w A rs) (n : Nat) : RdW (w.drewN n) A rs := h
theorem RdW.nil_ {w : World} {A : Option Addr} : RdW w A [] := .inl rfl
/-- The cells of writes. -/
def wC (rs : List (Int × BitVec 64)) : List Value := rs.flatMap fun x => [.int .i64 x.1, U x.2]
theorem wC_len : ∀ rs : List (Int × BitVec 64), (wC rs).length = rs.length * 2
  | [] => rfl
  | x :: rs => by
    have h := wC_len rs
    unfold wC at *
    rw [List.flatMap_cons, List.length_append, h, List.length_cons]
    simp only [List.length_cons, List.length_nil]
    omega
theorem wC_append (a b : List (Int × BitVec 64)) : wC (a ++ b) = wC a ++ wC b := by unfold wC; rw [List.flatMap_append]
theorem wC_get : ∀ (rs : List (Int × BitVec 64)) (k : Nat) (h : k < rs.length), (wC rs)[k * 2]? = some (.int .i64 rs[k].1) ∧ (wC rs)[k * 2 + 1]? = some (U rs[k].2)
  | [], k, h => by simp at h
  | x :: rs, 0, _ => ⟨rfl, rfl⟩
  | x :: rs, k + 1, h => by
    have h2 := wC_get rs k (by simpa using h)
    have e : wC (x :: rs) = .int .i64 x.1 :: U x.2 :: wC rs := rfl
    rw [e, show (k + 1) * 2 = k * 2 + 1 + 1 by omega, List.getElem?_cons_succ, List.getElem?_cons_succ, List.getElem?_cons_succ, List.getElem?_cons_succ]
    exact h2
/-- The call's own slice of writes (element type e). -/
def OwnW (e : TypeId) (w : World) (base : Nat) (A : Option Addr) (rs : List (Int × BitVec 64)) (c : Nat) : Prop := w.ownsRow base e 2 (.slice A rs.length c) rs.length (wC rs)
section
variable {e : TypeId} {w w' : World} {base c : Nat} {A : Option Addr} {rs : List (Int × BitVec 64)}
theorem OwnW.rd (h : OwnW e w base A rs c) : RdW w A rs := by
  rcases own_rd h with h0 | ⟨b, off, hA, hc⟩
  · left
    have := wC_len rs
    rw [h0] at this
    exact List.eq_nil_of_length_eq_zero (by simp at this; omega)
  · refine .inr ⟨b, off, hA, fun k hk => ?_⟩
    obtain ⟨h1, h2⟩ := wC_get rs k hk
    have hl := wC_len rs
    have g1 := hc (k * 2) (by omega)
    have g2 := hc (k * 2 + 1) (by omega)
    rw [List.getElem?_eq_getElem (by omega)] at h1 h2
    rw [Option.some.inj h1] at g1
    rw [Option.some.inj h2] at g2
    exact ⟨g1, by rw [Nat.add_assoc]; exact g2⟩
theorem OwnW.cap (h : OwnW e w base A rs c) : rs.length ≤ c ∧ c ≤ maxLen := own_cap h
theorem OwnW.lt (h : OwnW e w base A rs c) : ∀ k, blk A = some k → base ≤ k ∧ k < w.heap.size := own_lt h
theorem OwnW.nil_ (w : World) (base : Nat) : OwnW e w base none [] 0 := World.ownsRow_nil w base _ 2
theorem OwnW.kept {row : Option Nat} (h : OwnW e w base A rs c) (hg : w.grownBy w' row) (hne : blk A = none ∨ blk A ≠ row) : OwnW e w' base A rs c := own_kept h hg hne
theorem OwnW.below (h : OwnW e w base A rs c) (hb : Below w.heap.size w w') : OwnW e w' base A rs c := own_below h hb
theorem OwnW.le {b' : Nat} (h : OwnW e w base A rs c) (hb : b' ≤ base) : OwnW e w b' A rs c := Go.Joins.ownsRow_le h hb
end
/-- A block of one run, made anew. -/
theorem RdW.new1 (w : World) (z : Int) (v : BitVec 64) (T : TypeId) : RdW (w.alloc (.cells #[.int .i64 z, U v] T)) (some ⟨w.heap.size, 0, none⟩) [(z, v)] := by
  refine .inr ⟨w.heap.size, 0, rfl, fun k hk => ?_⟩
  obtain rfl : k = 0 := by simpa using hk
  exact ⟨Lib.cell_of_heap (heap_alloc_new w _) 0, Lib.cell_of_heap (heap_alloc_new w _) 1⟩
theorem RdW.of_heap {w : World} {q : Nat} {z : Int} {v : BitVec 64} {T : TypeId} (h : w.heap[q]? = some (.cells #[.int .i64 z, U v] T (0, 0))) : RdW w (some ⟨q, 0, none⟩) [(z, v)] := by
  refine .inr ⟨q, 0, rfl, fun k hk => ?_⟩
  obtain rfl : k = 0 := by simpa using hk
  exact ⟨Lib.cell_of_heap h 0, Lib.cell_of_heap h 1⟩
/-- append onto a slice of writes of the call's own. -/
theorem appW {P : Program} {w : World} (t e : TypeId) (ht : P.underlying t = some (.slice e)) (hinf : (P.info? e).map (fun i => (i.zero, i.size, i.bytes)) = some (some (.agg #[.int .i64 0, .int .u64 0]), 2, 16))
    {ops : Array Oper} {rest : List Oper} {o : Oper} {a : Act} {Q : Exit → Act → World → Prop} (s x : Operand) (hw : Region.wanted o (yielded ops a.tmps) = true)
    (ho : o.op = .call { callee := .builtin .append, args := #[s, x], argTypes := #[t, t] })
    (base : Nat) (A : Option Addr) (xs : List (Int × BitVec 64)) (n c : Nat) (hs : a.eval s = .slice A n c) (hn : n = xs.length) (hown : OwnW e w base A xs c)
    (A2 : Option Addr) (ys : List (Int × BitVec 64)) (m c2 : Nat) (hx : a.eval x = .slice A2 m c2) (hm : m = ys.length) (hr : RdW w A2 ys)
    (hb : xs.length + ys.length ≤ 1048576) (hbase : base ≤ w.heap.size)
    (h : ∀ A' zs c' w', zs = xs ++ ys → OwnW e w' base A' zs c' → w.grownBy w' (blk A) → (blk A' = blk A ∨ blk A' = some w.heap.size) → Stop (wpList P ops Q rest (a.put o.dst (.slice A' zs.length c')) w')) :
    Stop (wpList P ops Q (o :: rest) a w) := by
  obtain ⟨i, hi, hz0, hz1, hz2⟩ := info_parts hinf
  subst hn hm
  refine wpList_want hw (wp_app s x _ ho base e i _ 2 16 ht hi hz0 hz1 hz2 rfl (by omega) (by omega) A xs.length c _ hs hown A2 ys.length c2 (wC ys) hx (by rw [wC_len]) ?_ ?_ (by omega) hbase ?_)
  · rcases hr with h0 | ⟨b, off, hA, hc⟩
    · left; rw [h0]; rfl
    · refine .inr ⟨b, off, hA, fun k hk => ?_⟩
      have hl := wC_len ys
      have hk2 : k / 2 < ys.length := by omega
      obtain ⟨h1, h2⟩ := wC_get ys (k / 2) hk2
      obtain ⟨g1, g2⟩ := hc (k / 2) hk2
      rcases Nat.mod_two_eq_zero_or_one k with e | e
      · have ek : k / 2 * 2 = k := by omega
        rw [ek] at h1 g1
        rw [g1, ← h1, List.getElem?_eq_getElem hk]
      · have ek : k / 2 * 2 + 1 = k := by omega
        rw [Nat.add_assoc, ek] at g2
        rw [ek] at h2
        rw [g2, ← h2, List.getElem?_eq_getElem hk]
  · intro u hu
    unfold wC at hu
    rw [List.mem_flatMap] at hu
    obtain ⟨y, _, hy⟩ := hu
    simp at hy
    rcases hy with rfl | rfl
    · rfl
    · rfl
  · intro A' c' w' h1 h2 h3
    have := h A' (xs ++ ys) c' w' rfl (by unfold OwnW; rw [List.length_append, wC_append]; exact h1) h2 h3
    rw [List.length_append] at this
    exact this
theorem below_appW {e : TypeId} {B : Nat} {a w w' : World} {base : Nat} {A : Option Addr} {xs : List (Int × BitVec 64)} {c : Nat} (h : Below B a w) (ho : OwnW e w base A xs c) (hg : w.grownBy w' (blk A)) (hB : B ≤ w.heap.size) (hb : B ≤ base) : Below B a w' :=
  h.grown hg hB (fun k hk => Nat.le_trans hb (ho.lt k hk).1)
end Go.Proofs.Ytoifejinppjeeaa
