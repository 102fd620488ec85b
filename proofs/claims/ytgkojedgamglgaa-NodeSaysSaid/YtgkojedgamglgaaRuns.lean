/- Slices of pairs of ints (runs): what can be read, what the call owns, append; a node that came in, opened. No condition. -/
import Derived.Test.YtgkojedgamglgaaCtx
import Derived.Test.YtgkojedgamglgaaFrame
import Derived.ChangeArms
import Derived.ChangeSame
namespace Go.Proofs.Ytgkojedgamglgaa
open Go.ChangeShapes Go.WideShapes Go.ChangeAt Go.RowKit Go.Deep
set_option linter.unusedVariables false
set_option linter.unusedSimpArgs false
abbrev Rn := Int × Int
/-- Each number is an int. -/
def RnFit (rs : List Rn) : Prop := ∀ x ∈ rs, (-9223372036854775808 ≤ x.1 ∧ x.1 ≤ 9223372036854775807) ∧ (-9223372036854775808 ≤ x.2 ∧ x.2 ≤ 9223372036854775807)
/-- A slice whose cells read as these runs. -/
def RdR (w : World) (A : Option Addr) (rs : List Rn) : Prop :=
  rs = [] ∨ ∃ b off, A = some ⟨b, off, none⟩ ∧ ∀ k, (h : k < rs.length) → w.cell? ⟨b, off + k * 2, none⟩ = some (.int .i64 rs[k].1) ∧ w.cell? ⟨b, off + k * 2 + 1, none⟩ = some (.int .i64 rs[k].2)
theorem RdR.below {w w' : World} {A : Option Addr} {rs : List Rn} (h : RdR w A rs) (hb : Below w.heap.size w w') : RdR w' A rs := by
  rcases h with h | ⟨b, off, hA, hc⟩
  · exact .inl h
  · exact .inr ⟨b, off, hA, fun k hk => ⟨(hb.cell (p := ⟨b, off + k * 2, none⟩) (cell_lt (hc k hk).1)).trans (hc k hk).1, (hb.cell (p := ⟨b, off + k * 2 + 1, none⟩) (cell_lt (hc k hk).2)).trans (hc k hk).2⟩⟩
theorem RdR.at_ {w : World} {A : Option Addr} {rs : List Rn} (h : RdR w A rs) {k : Nat} (hk : k < rs.length) :
    ∃ b off, A = some ⟨b, off, none⟩ ∧ ∀ j, (h : j < rs.length) → w.cell? ⟨b, off + j * 2, none⟩ = some (.int .i64 rs[j].1) ∧ w.cell? ⟨b, off + j * 2 + 1, none⟩ = some (.int .i64 rs[j].2) := by
  rcases h with h | h
  · rw [h] at hk; simp at hk
  · exact h
theorem RdR.nil_ {w : World} {A : Option Addr} : RdR w A [] := .inl rfl
theorem RdR.drew {w : World} {A : Option Addr} {rs : List Rn} (h : RdR w A rs) (n : Nat) : RdR (w.drewN n) A rs := h
theorem RdR.take {w : World} {A : Option Addr} {rs : List Rn} (h : RdR w A rs) (n : Nat) : RdR w A (rs.take n) := by
  rcases h with h | ⟨b, off, hA, hc⟩
  · left; rw [h]; simp
  · exact .inr ⟨b, off, hA, fun j hj => by
      have hj2 : j < rs.length := by simp at hj; omega
      have := hc j hj2
      simpa using this⟩
/-- The cells of runs. -/
def rnC (rs : List Rn) : List Value := rs.flatMap fun x => [.int .i64 x.1, .int .i64 x.2]
theorem rnC_len : ∀ rs : List Rn, (rnC rs).length = rs.length * 2
  | [] => rfl
  | x :: rs => by
    have h := rnC_len rs
    unfold rnC at *
    rw [List.flatMap_cons, List.length_append, h, List.length_cons]
    simp only [List.length_cons, List.length_nil]
    omega
theorem rnC_append (a b : List Rn) : rnC (a ++ b) = rnC a ++ rnC b := by unfold rnC; rw [List.flatMap_append]
theorem rnC_get : ∀ (rs : List Rn) (k : Nat) (h : k < rs.length), (rnC rs)[k * 2]? = some (.int .i64 rs[k].1) ∧ (rnC rs)[k * 2 + 1]? = some (.int .i64 rs[k].2)
  | [], k, h => by simp at h
  | x :: rs, 0, _ => ⟨rfl, rfl⟩
  | x :: rs, k + 1, h => by
    have h2 := rnC_get rs k (by simpa using h)
    have e : rnC (x :: rs) = .int .i64 x.1 :: .int .i64 x.2 :: rnC rs := rfl
    rw [e, show (k + 1) * 2 = k * 2 + 1 + 1 by omega, List.getElem?_cons_succ, List.getElem?_cons_succ, List.getElem?_cons_succ, List.getElem?_cons_succ]
    exact h2
/-- The call's own slice of runs (element type e). -/
def OwnR (e : TypeId) (w : World) (base : Nat) (A : Option Addr) (rs : List Rn) (c : Nat) : Prop := w.ownsRow base e 2 (.slice A rs.length c) rs.length (rnC rs)
section
variable {e : TypeId} {w w' : World} {base c : Nat} {A : Option Addr} {rs : List Rn}
theorem OwnR.rd (h : OwnR e w base A rs c) : RdR w A rs := by
  rcases own_rd h with h0 | ⟨b, off, hA, hc⟩
  · left
    have := rnC_len rs
    rw [h0] at this
    exact List.eq_nil_of_length_eq_zero (by simp at this; omega)
  · refine .inr ⟨b, off, hA, fun k hk => ?_⟩
    obtain ⟨h1, h2⟩ := rnC_get rs k hk
    have hl := rnC_len rs
    have g1 := hc (k * 2) (by omega)
    have g2 := hc (k * 2 + 1) (by omega)
    rw [List.getElem?_eq_getElem (by omega)] at h1 h2
    rw [Option.some.inj h1] at g1
    rw [Option.some.inj h2] at g2
    exact ⟨g1, by rw [Nat.add_assoc]; exact g2⟩
theorem OwnR.cap (h : OwnR e w base A rs c) : rs.length ≤ c ∧ c ≤ maxLen := own_cap h
theorem OwnR.lt (h : OwnR e w base A rs c) : ∀ k, blk A = some k → base ≤ k ∧ k < w.heap.size := own_lt h
theorem OwnR.nil_ (w : World) (base : Nat) : OwnR e w base none [] 0 := World.ownsRow_nil w base _ 2
theorem OwnR.kept {row : Option Nat} (h : OwnR e w base A rs c) (hg : w.grownBy w' row) (hne : blk A = none ∨ blk A ≠ row) : OwnR e w' base A rs c := own_kept h hg hne
theorem OwnR.below (h : OwnR e w base A rs c) (hb : Below w.heap.size w w') : OwnR e w' base A rs c := own_below h hb
theorem OwnR.le {b' : Nat} (h : OwnR e w base A rs c) (hb : b' ≤ base) : OwnR e w b' A rs c := Go.Joins.ownsRow_le h hb
end
/-- A block of one run, made anew. -/
theorem RdR.new1 (w : World) (z v : Int) (T : TypeId) : RdR (w.alloc (.cells #[.int .i64 z, .int .i64 v] T)) (some ⟨w.heap.size, 0, none⟩) [(z, v)] := by
  refine .inr ⟨w.heap.size, 0, rfl, fun k hk => ?_⟩
  obtain rfl : k = 0 := by simpa using hk
  exact ⟨Lib.cell_of_heap (heap_alloc_new w _) 0, Lib.cell_of_heap (heap_alloc_new w _) 1⟩
theorem RdR.of_heap {w : World} {q : Nat} {z v : Int} {T : TypeId} (h : w.heap[q]? = some (.cells #[.int .i64 z, .int .i64 v] T (0, 0))) : RdR w (some ⟨q, 0, none⟩) [(z, v)] := by
  refine .inr ⟨q, 0, rfl, fun k hk => ?_⟩
  obtain rfl : k = 0 := by simpa using hk
  exact ⟨Lib.cell_of_heap h 0, Lib.cell_of_heap h 1⟩
/-- append onto a slice of runs of the call's own. -/
theorem appR {P : Program} {w : World} (t e : TypeId) (ht : P.underlying t = some (.slice e)) (hinf : (P.info? e).map (fun i => (i.zero, i.size, i.bytes)) = some (some (.agg #[.int .i64 0, .int .i64 0]), 2, 16))
    {ops : Array Oper} {rest : List Oper} {o : Oper} {a : Act} {Q : Exit → Act → World → Prop} (s x : Operand) (hw : Region.wanted o (yielded ops a.tmps) = true)
    (ho : o.op = .call { callee := .builtin .append, args := #[s, x], argTypes := #[t, t] })
    (base : Nat) (A : Option Addr) (xs : List Rn) (n c : Nat) (hs : a.eval s = .slice A n c) (hn : n = xs.length) (hown : OwnR e w base A xs c)
    (A2 : Option Addr) (ys : List Rn) (m c2 : Nat) (hx : a.eval x = .slice A2 m c2) (hm : m = ys.length) (hr : RdR w A2 ys)
    (hb : xs.length + ys.length ≤ 1048576) (hbase : base ≤ w.heap.size)
    (h : ∀ A' zs c' w', zs = xs ++ ys → OwnR e w' base A' zs c' → w.grownBy w' (blk A) → (blk A' = blk A ∨ blk A' = some w.heap.size) → Stop (wpList P ops Q rest (a.put o.dst (.slice A' zs.length c')) w')) :
    Stop (wpList P ops Q (o :: rest) a w) := by
  obtain ⟨i, hi, hz0, hz1, hz2⟩ := info_parts hinf
  subst hn hm
  refine wpList_want hw (wp_app s x _ ho base e i _ 2 16 ht hi hz0 hz1 hz2 rfl (by omega) (by omega) A xs.length c _ hs hown A2 ys.length c2 (rnC ys) hx (by rw [rnC_len]) ?_ ?_ (by omega) hbase ?_)
  · rcases hr with h0 | ⟨b, off, hA, hc⟩
    · left; rw [h0]; rfl
    · refine .inr ⟨b, off, hA, fun k hk => ?_⟩
      have hl := rnC_len ys
      have hk2 : k / 2 < ys.length := by omega
      obtain ⟨h1, h2⟩ := rnC_get ys (k / 2) hk2
      obtain ⟨g1, g2⟩ := hc (k / 2) hk2
      rcases Nat.mod_two_eq_zero_or_one k with e | e
      · have ek : k / 2 * 2 = k := by omega
        rw [ek] at h1 g1
        rw [g1, ← h1, List.getElem?_eq_getElem hk]
      · have ek : k / 2 * 2 + 1 = k := by omega
        rw [Nat.add_assoc, ek] at g2
        rw [ek] at h2
        rw [g2, ← h2, List.getElem?_eq_getElem hk]
  · intro u hu
    unfold rnC at hu
    rw [List.mem_flatMap] at hu
    obtain ⟨y, _, hy⟩ := hu
    simp at hy
    rcases hy with rfl | rfl
    · rfl
    · rfl
  · intro A' c' w' h1 h2 h3
    have := h A' (xs ++ ys) c' w' rfl (by unfold OwnR; rw [List.length_append, rnC_append]; exact h1) h2 h3
    rw [List.length_append] at this
    exact this
theorem below_appR {e : TypeId} {B : Nat} {a w w' : World} {base : Nat} {A : Option Addr} {xs : List Rn} {c : Nat} (h : Below B a w) (ho : OwnR e w base A xs c) (hg : w.grownBy w' (blk A)) (hB : B ≤ w.heap.size) (hb : B ≤ base) : Below B a w' :=
  h.grown hg hB (fun k hk => Nat.le_trans hb (ho.lt k hk).1)
section
variable {H : Type} {enc : TypeId × Value → H} {P : Program} {w : World} {base : Nat} {spare : Nat → Bool} {held : Bool}
theorem open_runs_of {t e : TypeId} {f0 f1 : Field} {v : Value} {y : DataW H × List MemPlace} {fuel : Nat} (ht : P.underlying t = some (.slice e)) (he : P.underlying e = some (.struct #[f0, f1])) (hone : oneCellFields P #[f0, f1] = true) (hC : P.cellsOf e = 2)
    (u0 : P.underlying f0.type = some (.int .i64)) (u1 : P.underlying f1.type = some (.int .i64)) (hf : DataW.trod enc P w base spare held fuel t [v] = some y) :
    ∃ (a : Option Addr) (ws : List Rn) (c : Nat), v = .slice a ws.length c ∧ (RdR w a ws ∧ RnFit ws) ∧ ws.length ≤ c ∧ c ≤ maxLen := by
  obtain ⟨a, n, c, hv⟩ := Go.Joins.slice_form ht hf
  obtain rfl : v = .slice a n c := by simpa using hv
  rcases open_slice ht hf with ⟨hcs, _⟩ | ⟨x, len, cap, m, n', D, Pl, hcs, hb, hl, hm, hmm, hx, hi⟩
  · simp [Value.cells] at hcs
    obtain ⟨rfl, rfl, rfl⟩ := hcs
    exact ⟨none, [], 0, rfl, ⟨.inl rfl, by simp [RnFit]⟩, by simp, by simp [maxLen]⟩
  · simp [Value.cells] at hcs
    obtain ⟨rfl, rfl, rfl⟩ := hcs
    have hnm : n ≤ m := by rw [hmm]; split <;> omega
    have key : ∀ i, i < n → ∃ (z q : Int), w.cell? (x.add (i * 2)) = some (.int .i64 z) ∧ w.cell? (x.add (i * 2 + 1)) = some (.int .i64 q) ∧ (-9223372036854775808 ≤ z ∧ z ≤ 9223372036854775807) ∧ (-9223372036854775808 ≤ q ∧ q ≤ 9223372036854775807) := by
      intro i hin
      obtain ⟨cs', hc, ht'⟩ := hi i (by omega)
      rw [hC] at hc
      obtain ⟨ys, n2, _, hy, hlen, hyl, hg⟩ := DataW.trod_struct he ht'
      obtain ⟨_, hcl, hat⟩ := World.cells?_some hc
      obtain ⟨o0, k0⟩ := hone_of hone 0 f0 rfl
      obtain ⟨o1, k1⟩ := hone_of hone 1 f1 rfl
      rw [hC] at hlen
      match cs', hlen with
      | [c0, c1], _ =>
        match ys, hyl with
        | [y0, y1], _ =>
          have g0 := hg 0 f0 rfl
          have g1 := hg 1 f1 rfl
          rw [o0, k0] at g0
          rw [o1, k1] at g1
          have g0 : DataW.trod enc P w base spare held n2 f0.type [c0] = some y0 := g0
          have g1 : DataW.trod enc P w base spare held n2 f1.type [c1] = some y1 := g1
          obtain ⟨z, e0, _, w0⟩ := DataW.trod_int u0 g0
          obtain ⟨q, e1, _, w1⟩ := DataW.trod_int u1 g1
          obtain rfl : c0 = .int .i64 z := by simpa using e0
          obtain rfl : c1 = .int .i64 q := by simpa using e1
          have a0 := hat 0 (by omega)
          have a1 := hat 1 (by omega)
          rw [Go.Deep.add_add, Nat.add_zero] at a0
          rw [Go.Deep.add_add] at a1
          exact ⟨z, q, a0, a1, bd_int w0, bd_int w1⟩
    by_cases hn : n = 0
    · subst hn
      exact ⟨some x, [], c, rfl, ⟨.inl rfl, by simp [RnFit]⟩, by simp, hm⟩
    · obtain ⟨z0, q0, h0, _⟩ := key 0 (by omega)
      obtain ⟨b, off, spot⟩ := x
      have hspot : spot = none := by simpa [Addr.add] using World.cell?_spot h0
      subst hspot
      simp only [Addr.add_lit, ← Nat.add_assoc] at key
      let ws : List Rn := (List.range n).attach.map fun i => ((key i.1 (List.mem_range.1 i.2)).choose, (key i.1 (List.mem_range.1 i.2)).choose_spec.choose)
      have hwl : ws.length = n := by simp [ws]
      have hat : ∀ i (h : i < ws.length), w.cell? ⟨b, off + i * 2, none⟩ = some (.int .i64 ws[i].1) ∧ w.cell? ⟨b, off + i * 2 + 1, none⟩ = some (.int .i64 ws[i].2) ∧ (-9223372036854775808 ≤ ws[i].1 ∧ ws[i].1 ≤ 9223372036854775807) ∧ (-9223372036854775808 ≤ ws[i].2 ∧ ws[i].2 ≤ 9223372036854775807) := by
        intro i h
        have hin : i < n := by omega
        have hs := (key i hin).choose_spec.choose_spec
        have e : ws[i] = ((key i hin).choose, (key i hin).choose_spec.choose) := by simp [ws]
        rw [e]
        exact hs
      refine ⟨some ⟨b, off, none⟩, ws, c, by rw [hwl], ⟨.inr ⟨b, off, rfl, fun k hk => ⟨(hat k hk).1, (hat k hk).2.1⟩⟩, fun y hy => ?_⟩, by omega, hm⟩
      obtain ⟨i, hi2, rfl⟩ := List.getElem_of_mem hy
      exact (hat i hi2).2.2
/-- A node's numbers and its slice of runs. -/
structure NodeN where
  t : Int
  l : Int
  s : Int
def NodeN.Fit (n : NodeN) : Prop := (-9223372036854775808 ≤ n.t ∧ n.t ≤ 9223372036854775807) ∧ (-9223372036854775808 ≤ n.l ∧ n.l ≤ 9223372036854775807) ∧ (-9223372036854775808 ≤ n.s ∧ n.s ≤ 9223372036854775807)
theorem open_node {t e : TypeId} {e0 e1 e2 e3 f0 f1 : Field} {r : Reach} {b0 : Nat} {v : Value} {d : DataW H} {p : List MemPlace} (hs : P.underlying t = some (.struct #[e0, e1, e2, e3])) (hone0 : oneCellFields P #[e0, e1, e2, e3] = true) (hC0 : P.cellsOf t = 4)
    (v0 : P.underlying e0.type = some (.int .i64)) (v1 : P.underlying e1.type = some (.int .i64)) (v2 : P.underlying e2.type = some (.int .i64)) (ht : P.underlying e3.type = some (.slice e)) (he : P.underlying e = some (.struct #[f0, f1])) (hone : oneCellFields P #[f0, f1] = true) (hC : P.cellsOf e = 2)
    (u0 : P.underlying f0.type = some (.int .i64)) (u1 : P.underlying f1.type = some (.int .i64))
    (hv : Value.okWide P w r b0 t v) (h : DataW.Trod enc P w base spare held t v d p) :
    ∃ (n : NodeN) (a : Option Addr) (ws : List Rn) (c : Nat), v = .agg #[.int .i64 n.t, .int .i64 n.l, .int .i64 n.s, .slice a ws.length c] ∧ (RdR w a ws ∧ RnFit ws ∧ n.Fit) ∧ ws.length ≤ c ∧ c ≤ maxLen := by
  obtain ⟨x0, x1, x2, x3, y0, y1, y2, y3, n, rfl, rfl, rfl, h0, h1, h2, h3⟩ := Go.Joins.open_agg4 hs hone0 hC0 hv h
  obtain ⟨z0, q0, _, w0⟩ := DataW.trod_int v0 h0
  obtain ⟨z1, q1, _, w1⟩ := DataW.trod_int v1 h1
  obtain ⟨z2, q2, _, w2⟩ := DataW.trod_int v2 h2
  obtain rfl : x0 = .int .i64 z0 := by simpa using q0
  obtain rfl : x1 = .int .i64 z1 := by simpa using q1
  obtain rfl : x2 = .int .i64 z2 := by simpa using q2
  obtain ⟨a, l, c, hv1⟩ := Go.Joins.slice_form ht h3
  obtain rfl : x3 = .slice a l c := by simpa using hv1
  obtain ⟨a', ws, c', hv', hr, hl, hm⟩ := open_runs_of ht he hone hC u0 u1 h3
  exact ⟨⟨z0, z1, z2⟩, a', ws, c', by rw [hv'], ⟨hr.1, hr.2, bd_int w0, bd_int w1, bd_int w2⟩, hl, hm⟩
end
end Go.Proofs.Ytgkojedgamglgaa
