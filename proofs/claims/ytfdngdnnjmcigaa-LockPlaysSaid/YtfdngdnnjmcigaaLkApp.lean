/- Rows of wants of the call's own; append. No condition. -/
import Derived.Test.YtfdngdnnjmcigaaLkLaw
namespace Go.Proofs.Ytfdngdnnjmcigaa
open Go.RowKit Go.Maps
set_option linter.unusedVariables false
set_option linter.unusedSimpArgs false
def OwnL (w : World) (base : Nat) (A : Option Addr) (ws : List Wt) (c : Nat) : Prop := w.ownsRow base 28 2 (.slice A ws.length c) ws.length (ws.flatMap encW)
theorem OwnL.rd {w : World} {base : Nat} {A : Option Addr} {ws : List Wt} {c : Nat} (h : OwnL w base A ws c) : RdL w A ws := rdL_of_own rfl h
theorem OwnL.nil_ (w : World) (base : Nat) : OwnL w base none [] 0 := World.ownsRow_nil w base _ 2
theorem OwnL.below {w w' : World} {base : Nat} {A : Option Addr} {ws : List Wt} {c : Nat} (h : OwnL w base A ws c) (hb : Below w.heap.size w w') : OwnL w' base A ws c := own_below h hb
theorem RdL.rd {w : World} {A : Option Addr} {ws : List Wt} (h : RdL w A ws) : Rd w A (ws.flatMap encW) := by
  rcases h with h | ⟨b, off, rfl, hc⟩
  · left; rw [h]; rfl
  · refine .inr ⟨b, off, rfl, fun k hk => ?_⟩
    exact flatW_cells hc k _ (List.getElem?_eq_getElem hk)
theorem appL {w : World} {ops : Array Oper} {rest : List Oper} {o : Oper} {a : Act} {Q : Exit → Act → World → Prop} (s x : Operand) (hw : Region.wanted o (yielded ops a.tmps) = true)
    (ho : o.op = .call { callee := .builtin .append, args := #[s, x], argTypes := #[30, 30] })
    (base : Nat) (A : Option Addr) (ws : List Wt) (n c : Nat) (hs : a.eval s = .slice A n c) (hn : n = ws.length) (hown : OwnL w base A ws c)
    (A2 : Option Addr) (ys : List Wt) (m c2 : Nat) (hx : a.eval x = .slice A2 m c2) (hm : m = ys.length) (hr : RdL w A2 ys) (hb : ws.length + ys.length ≤ 1000000) (hbase : base ≤ w.heap.size)
    (h : ∀ A' zs c' w', zs = ws ++ ys → OwnL w' base A' zs c' → w.grownBy w' (blk A) → (blk A' = blk A ∨ blk A' = some w.heap.size) → Stop (wpList Try.prog ops Q rest (a.put o.dst (.slice A' zs.length c')) w')) :
    Stop (wpList Try.prog ops Q (o :: rest) a w) := by
  obtain ⟨i, hi, hz0, hz1, hz2⟩ := info_parts infoWant
  subst hn
  subst hm
  refine wpList_want hw (wp_app s x _ ho base 28 i _ 2 16 Try.underlying30 hi hz0 hz1 hz2 rfl (by omega) (by omega) A ws.length c _ hs hown A2 ys.length c2 (ys.flatMap encW) hx (flatW_len ys) hr.rd (flatW_one ys) (by omega) hbase ?_)
  intro A' c' w' h2 h3 h4
  have h5 := h A' (ws ++ ys) c' w' rfl (by unfold OwnL; rw [List.length_append, List.flatMap_append]; exact h2) h3 h4
  rw [List.length_append] at h5
  exact h5
end Go.Proofs.Ytfdngdnnjmcigaa
