/- A row's copy onto an empty one, in one region, in whatever order. No condition. -/
import Derived.Test.YtfdngdnnjmcigaaLpPlain2
import Derived.Test.YtfdngdnnjmcigaaRegion5
namespace Go.Proofs.Ytfdngdnnjmcigaa
open Go.RowKit Go.Maps
set_option linter.unusedVariables false
set_option linter.unusedSimpArgs false
theorem stab_true {R : World → World → Prop} : Stab R (fun _ _ => True) := fun _ _ _ h _ => h
/-- Where the region stands. -/
def LmJ (w0 : World) (base : Nat) (ls : List Wt) (l : Array Bool) (act : Act) (w : World) : Prop :=
  ∃ A c, Below base w0 w ∧ base ≤ w.heap.size ∧ (l.getD 2 false = true → l.getD 5 false = false → act.tmps.getD 179 undef = .slice A 0 c ∧ OwnL w base A [] c) ∧
    (l.getD 5 false = true → act.tmps.getD 182 undef = .slice A ls.length c ∧ OwnL w base A ls c)
section
variable {w0 w w' : World} {base : Nat} {ls : List Wt} {l : Array Bool} {act : Act}
theorem LmJ.hb (h : LmJ w0 base ls l act w) : Below base w0 w := by
  obtain ⟨_, _, h, _⟩ := h
  exact h
theorem LmJ.start (hw : base ≤ w.heap.size) (n : Nat) : LmJ w base ls (Array.replicate n false) act w.drew := by
  have hbd : Below w.heap.size w w.drew := Stood.cur (Stood.refl _)
  have e : ∀ j, (Array.replicate n false).getD j false = false := fun j => by
    rw [Array.getD_eq_getD_getElem?, Array.getElem?_replicate]
    split <;> rfl
  refine ⟨none, 0, hbd.mono hw, Nat.le_trans hw hbd.size, fun k => ?_, fun k => ?_⟩
  all_goals rw [e] at k; cases k
theorem LmJ.quiet (h : LmJ w0 base ls l act w) {i : Nat} (hi : i ≠ 2 ∧ i ≠ 5) {op : Oper} (ho : op.dst ≠ some 179 ∧ op.dst ≠ some 182) (v : Value) : LmJ w0 base ls (l.setIfInBounds i true) (act.put op.dst v) w := by
  obtain ⟨A, c, hb, hs, h1, h2⟩ := h
  obtain ⟨i1, i2⟩ := hi
  obtain ⟨o1, o2⟩ := ho
  refine ⟨A, c, hb, hs, ?_, ?_⟩
  · rw [getD_set_ne i1, getD_set_ne i2, getD_put_ne o1]; exact h1
  · rw [getD_set_ne i2, getD_put_ne o2]; exact h2
theorem LmJ.made (h : LmJ w0 base ls l act w) (hls : 2 < l.size) (h2 : l.getD 5 false = false) (hn : 179 < act.tmps.size) : LmJ w0 base ls (l.setIfInBounds 2 true) (act.put (some 179) (.slice (some ⟨w.heap.size, 0, none⟩) 0 0)) (w.alloc (.cells #[] 28)) := by
  obtain ⟨A, c, hb, hs, g1, g2⟩ := h
  refine ⟨some ⟨w.heap.size, 0, none⟩, 0, hb.alloc (by omega) _, by rw [World.size_alloc]; omega, ?_, ?_⟩
  · intro _ _
    exact ⟨by simp [Act.put, Array.getD_eq_getD_getElem?, hn], rfl, .inr ⟨w.heap.size, 0, #[], rfl, hs, heap_alloc_new w _, Nat.le_refl _, Nat.zero_le _, rfl, rfl⟩⟩
  · rw [getD_set_ne (by decide), h2]; intro k; cases k
theorem LmJ.app {A A1 : Option Addr} {c c1 : Nat} (h : LmJ w0 base ls l act w) (hA : act.tmps.getD 179 undef = .slice A 0 c) (h0 : l.getD 2 false = true) (h2 : l.getD 5 false = false) (hls : 5 < l.size) (hn : 182 < act.tmps.size)
    (ho : OwnL w' base A1 ls c1) (hg : w.grownBy w' (blk A)) :
    LmJ w0 base ls (l.setIfInBounds 5 true) (act.put (some 182) (.slice A1 (0 + ls.length) c1)) w' := by
  obtain ⟨A2, c2, hb, hs, g1, g2⟩ := h
  obtain ⟨e1, e2⟩ := g1 h0 h2
  rw [hA] at e1
  injection e1 with e1 _ e3
  subst e1 e3
  rw [Nat.zero_add]
  refine ⟨A1, c1, hb.grown hg hs fun k hk => (own_lt e2 k hk).1, Nat.le_trans hs hg.size, ?_, ?_⟩
  · rw [getD_set_eq hls]; intro _ k; cases k
  · intro _; exact ⟨by simp [Act.put, Array.getD_eq_getD_getElem?, hn], ho⟩
end
end Go.Proofs.Ytfdngdnnjmcigaa
