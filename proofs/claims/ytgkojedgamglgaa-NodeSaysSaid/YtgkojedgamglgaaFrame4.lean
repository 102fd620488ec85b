/- A head that came in: its geometry and its phase, whatever the memory later. -/
import Derived.Test.YtgkojedgamglgaaFrame3
namespace Go.Proofs.Ytgkojedgamglgaa
open Go.ChangeShapes Go.WideShapes Go.ChangeAt Go.RowKit Go.Deep
/-- A head's value. -/
def headV (g : Geo) (p : BitVec 64) : Value := .agg #[.int .i64 g.b, .int .i64 g.n, .int .i64 g.c, .int .i64 g.k, U p]
section
variable {H : Type} {enc : TypeId × Value → H} {P : Program} {w : World} {base : Nat} {spare : Nat → Bool} {held : Bool}
theorem array5_ {α : Type} {cs : Array α} (h : cs.size = 5) : ∃ c0 c1 c2 c3 c4, cs = #[c0, c1, c2, c3, c4] := by
  obtain ⟨l⟩ := cs
  match l, h with
  | [c0, c1, c2, c3, c4], _ => exact ⟨c0, c1, c2, c3, c4, rfl⟩
theorem open_head {r : Reach} {b0 : Nat} {t : TypeId} {e0 e1 f0 f1 f2 f3 : Field} {v : Value} {d : DataW H} {p : List MemPlace} (hs : P.underlying t = some (.struct #[e0, e1])) (hC : P.cellsOf t = 5)
    (ho0 : e0.offset = 0) (ho1 : e1.offset = 4) (hC0 : P.cellsOf e0.type = 4) (hC1 : P.cellsOf e1.type = 1) (u : P.underlying e1.type = some (.int .u64))
    (hs0 : P.underlying e0.type = some (.struct #[f0, f1, f2, f3])) (hone : oneCellFields P #[f0, f1, f2, f3] = true)
    (u0 : P.underlying f0.type = some (.int .i64)) (u1 : P.underlying f1.type = some (.int .i64)) (u2 : P.underlying f2.type = some (.int .i64)) (u3 : P.underlying f3.type = some (.int .i64))
    (hv : Value.okWide P w r b0 t v) (h : DataW.Trod enc P w base spare held t v d p) :
    ∃ (g : Geo) (q : BitVec 64), v = headV g q ∧ p = [] ∧ g.Fit ∧ ∀ (w' : World) (base' : Nat) (spare' : Nat → Bool) (held' : Bool), DataW.Trod enc P w' base' spare' held' t (headV g q) d [] := by
  obtain ⟨cs, rfl, hsz⟩ := okWide_struct hs hv
  obtain ⟨c0, c1, c2, c3, c4, rfl⟩ := array5_ (hsz.trans hC)
  obtain ⟨fuel, hf⟩ := h
  obtain ⟨xs, n, _, hx, hl, hlen, hg⟩ := DataW.trod_struct hs hf
  match xs, hlen with
  | [y0, y1], _ =>
    have h0 := hg 0 e0 rfl
    have h1 := hg 1 e1 rfl
    rw [ho0, hC0] at h0
    rw [ho1, hC1] at h1
    have h0 : DataW.trod enc P w base spare held n e0.type [c0, c1, c2, c3] = some y0 := h0
    have h1 : DataW.trod enc P w base spare held n e1.type [c4] = some y1 := h1
    obtain ⟨a4, k4, rfl, w4⟩ := DataW.trod_int u h1
    obtain ⟨zs, n', _, hz, hl', hlen', hg'⟩ := DataW.trod_struct hs0 h0
    obtain ⟨o0, k0⟩ := hone_of hone 0 f0 rfl
    obtain ⟨o1, k1⟩ := hone_of hone 1 f1 rfl
    obtain ⟨o2, k2⟩ := hone_of hone 2 f2 rfl
    obtain ⟨o3, k3⟩ := hone_of hone 3 f3 rfl
    match zs, hlen' with
    | [z0, z1, z2, z3], _ =>
      have j0 := hg' 0 f0 rfl
      have j1 := hg' 1 f1 rfl
      have j2 := hg' 2 f2 rfl
      have j3 := hg' 3 f3 rfl
      rw [o0, k0] at j0
      rw [o1, k1] at j1
      rw [o2, k2] at j2
      rw [o3, k3] at j3
      have j0 : DataW.trod enc P w base spare held n' f0.type [c0] = some z0 := j0
      have j1 : DataW.trod enc P w base spare held n' f1.type [c1] = some z1 := j1
      have j2 : DataW.trod enc P w base spare held n' f2.type [c2] = some z2 := j2
      have j3 : DataW.trod enc P w base spare held n' f3.type [c3] = some z3 := j3
      obtain ⟨a0, e0_, rfl, w0⟩ := DataW.trod_int u0 j0
      obtain ⟨a1, e1_, rfl, w1⟩ := DataW.trod_int u1 j1
      obtain ⟨a2, e2_, rfl, w2⟩ := DataW.trod_int u2 j2
      obtain ⟨a3, e3_, rfl, w3⟩ := DataW.trod_int u3 j3
      obtain rfl : c0 = .int .i64 a0 := by simpa [Value.cells] using e0_
      obtain rfl : c1 = .int .i64 a1 := by simpa [Value.cells] using e1_
      obtain rfl : c2 = .int .i64 a2 := by simpa [Value.cells] using e2_
      obtain rfl : c3 = .int .i64 a3 := by simpa [Value.cells] using e3_
      obtain rfl : c4 = .int .u64 a4 := by simpa [Value.cells] using k4
      obtain ⟨q, hq⟩ := word_of w4
      simp only [Prod.mk.injEq] at hx
      obtain ⟨hx1, hx2⟩ := hx
      subst hx1 hx2 hz
      refine ⟨⟨a0, a1, a2, a3⟩, q, by unfold headV; rw [← hq], rfl, ⟨bd_int w0, bd_int w1, bd_int w2, bd_int w3⟩, fun w' base' spare' held' => ?_⟩
      unfold headV
      rw [← hq]
      have t0 := Go.Joins.trod_struct4_mk (enc := enc) (w := w') (base := base') (spare := spare') (held := held') (n := 1) (cs := [.int .i64 a0, .int .i64 a1, .int .i64 a2, .int .i64 a3]) hs0 (by simp [hC0])
        (by simpa [o0, k0] using trod_int_mk 0 u0 w0) (by simpa [o1, k1] using trod_int_mk 0 u1 w1) (by simpa [o2, k2] using trod_int_mk 0 u2 w2) (by simpa [o3, k3] using trod_int_mk 0 u3 w3)
      have t1 : DataW.trod enc P w' base' spare' held' 2 e1.type [.int .u64 a4] = some (.lit (.int .u64 a4), []) := trod_int_mk 1 u w4
      have ts := trod_struct_mk (enc := enc) (P := P) (w := w') (base := base') (spare := spare') (held := held') (n := 2) (t := t) (fs := #[e0, e1])
        (cs := [.int .i64 a0, .int .i64 a1, .int .i64 a2, .int .i64 a3, .int .u64 a4]) (xs := [_, _]) hs (by simp [hC]) (by simp [ho0, ho1, hC0, hC1, t0, t1]; exact ⟨rfl, rfl⟩)
      exact ⟨_, by simpa [Value.cells] using ts⟩
end
end Go.Proofs.Ytgkojedgamglgaa
