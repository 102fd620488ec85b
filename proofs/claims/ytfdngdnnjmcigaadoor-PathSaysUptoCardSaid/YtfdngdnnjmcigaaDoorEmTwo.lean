/- A slice's copy onto an empty one, and a text's box, in one region, in whatever order. No condition. -/
import Derived.Test.YtfdngdnnjmcigaaDoorPathRef5
namespace Go.Proofs.YtfdngdnnjmcigaaDoor
open Go.RowKit
set_option linter.unusedVariables false
set_option linter.unusedSimpArgs false
theorem RdS.rd {w : World} {A : Option Addr} {l : List ByteArray} (h : RdS w A l) : Rd w A (l.map Value.string) := by
  rcases h with h | ⟨b, o, rfl, hlt, hc⟩
  · left; rw [h]; rfl
  · exact .inr ⟨b, o, rfl, fun k hk => by
      rw [List.length_map] at hk
      rw [hc k l[k] (List.getElem?_eq_getElem hk)]; simp⟩
theorem stab_true {R : World → World → Prop} : Stab R (fun _ _ => True) := fun _ _ _ h _ => h
/-- Where the region stands. -/
def EmJ (w0 : World) (base : Nat) (rs : List ByteArray) (x : ByteArray) (l : Array Bool) (act : Act) (w : World) : Prop :=
  ∃ A c, Below base w0 w ∧ base ≤ w.heap.size ∧ (l.getD 0 false = false → blk A = none) ∧ (l.getD 0 false = true → l.getD 2 false = false → act.tmps.getD 25 undef = .slice A 0 c ∧ OwnS w base (.slice A 0 c) []) ∧
    (l.getD 2 false = true → act.tmps.getD 27 undef = .slice A rs.length c ∧ OwnS w base (.slice A rs.length c) rs) ∧ (l.getD 7 false = true → BxS act 32 x A none w)
section
variable {w0 w w' : World} {base : Nat} {rs : List ByteArray} {x : ByteArray} {l : Array Bool} {act : Act}
theorem EmJ.hb (h : EmJ w0 base rs x l act w) : Below base w0 w := by
  obtain ⟨_, _, h, _⟩ := h
  exact h
theorem EmJ.start (hw : base ≤ w.heap.size) (n : Nat) : EmJ w base rs x (Array.replicate n false) act w.drew := by
  have hbd : Below w.heap.size w w.drew := Stood.cur (Stood.refl _)
  have e : ∀ j, (Array.replicate n false).getD j false = false := fun j => by
    rw [Array.getD_eq_getD_getElem?, Array.getElem?_replicate]
    split <;> rfl
  refine ⟨none, 0, hbd.mono hw, Nat.le_trans hw hbd.size, fun _ => rfl, fun k => ?_, fun k => ?_, fun k => ?_⟩
  all_goals rw [e] at k; cases k
theorem EmJ.quiet (h : EmJ w0 base rs x l act w) {i : Nat} (hi : i ≠ 0 ∧ i ≠ 2 ∧ i ≠ 7) {op : Oper} (ho : op.dst ≠ some 25 ∧ op.dst ≠ some 27 ∧ op.dst ≠ some 32) (v : Value) : EmJ w0 base rs x (l.setIfInBounds i true) (act.put op.dst v) w := by
  obtain ⟨A, c, hb, hs, h0, h1, h2, h3⟩ := h
  obtain ⟨i1, i2, i3⟩ := hi
  obtain ⟨o1, o2, o3⟩ := ho
  refine ⟨A, c, hb, hs, ?_, ?_, ?_, ?_⟩
  · rw [getD_set_ne i1]; exact h0
  · rw [getD_set_ne i1, getD_set_ne i2, getD_put_ne o1]; exact h1
  · rw [getD_set_ne i2, getD_put_ne o2]; exact h2
  · rw [getD_set_ne i3]; exact fun k => (h3 k).put o3 _
theorem EmJ.lt {A : Option Addr} {c : Nat} (h1 : l.getD 0 false = false → blk A = none) (h2 : l.getD 0 false = true → l.getD 2 false = false → act.tmps.getD 25 undef = .slice A 0 c ∧ OwnS w base (.slice A 0 c) [])
    (h3 : l.getD 2 false = true → act.tmps.getD 27 undef = .slice A rs.length c ∧ OwnS w base (.slice A rs.length c) rs) : ∀ q, blk A = some q → q < w.heap.size := by
  intro q hq
  cases e2 : l.getD 2 false with
  | true => exact (own_lt (h3 e2).2 q hq).2
  | false =>
    cases e0 : l.getD 0 false with
    | true => exact (own_lt (h2 e0 e2).2 q hq).2
    | false => rw [h1 e0] at hq; cases hq
theorem EmJ.made0 (h : EmJ w0 base rs x l act w) (hls : 0 < l.size) (h2 : l.getD 2 false = false) (hn : 25 < act.tmps.size) : EmJ w0 base rs x (l.setIfInBounds 0 true) (act.put (some 25) (.slice (some ⟨w.heap.size, 0, none⟩) 0 0)) (w.alloc (.cells #[] 9)) := by
  obtain ⟨A, c, hb, hs, g0, g1, g2, g3⟩ := h
  have hal : Below w.heap.size w (w.alloc (.cells #[] 9)) := (Below.refl _ _).alloc (Nat.le_refl _) _
  refine ⟨some ⟨w.heap.size, 0, none⟩, 0, hb.alloc (by omega) _, by rw [World.size_alloc]; omega, ?_, ?_, ?_, ?_⟩
  · rw [getD_set_eq hls]; intro k; cases k
  · intro _ _
    exact ⟨by simp [Act.put, Array.getD_eq_getD_getElem?, hn], OwnF.lit (f := Value.string) (e := 9) w base [] hs (by decide)⟩
  · rw [getD_set_ne (by decide), h2]; intro k; cases k
  · rw [getD_set_ne (by decide)]
    intro k
    obtain ⟨q, q1, q2, q3, q4⟩ := g3 k
    have hne : blk (some ⟨w.heap.size, 0, none⟩ : Option Addr) ≠ some q := by
      intro e
      have e : w.heap.size = q := by simpa [blk] using e
      have := heap_lt q2
      omega
    exact ⟨q, by rw [getD_put_t (by decide)]; exact q1, heap_below q2 hal, hne, q4⟩
theorem EmJ.made7 (h : EmJ w0 base rs x l act w) (hn : 32 < act.tmps.size) : EmJ w0 base rs x (l.setIfInBounds 7 true) (act.put (some 32) (.slice (some ⟨w.heap.size, 0, none⟩) 1 1)) (w.alloc (.cells #[.string x] 9)) := by
  obtain ⟨A, c, hb, hs, g0, g1, g2, g3⟩ := h
  have hal : Below w.heap.size w (w.alloc (.cells #[.string x] 9)) := (Below.refl _ _).alloc (Nat.le_refl _) _
  have hA := EmJ.lt g0 g1 g2
  refine ⟨A, c, hb.alloc (by omega) _, by rw [World.size_alloc]; omega, ?_, ?_, ?_, ?_⟩
  · rw [getD_set_ne (by decide)]; exact g0
  · rw [getD_set_ne (by decide), getD_set_ne (by decide), getD_put_t (by decide)]; intro k0 k2; exact ⟨(g1 k0 k2).1, own_below (g1 k0 k2).2 hal⟩
  · rw [getD_set_ne (by decide), getD_put_t (by decide)]; intro k; exact ⟨(g2 k).1, own_below (g2 k).2 hal⟩
  · intro _
    exact ⟨w.heap.size, by simp [Act.put, Array.getD_eq_getD_getElem?, hn], heap_alloc_new w _, fun e => by have := hA _ e; omega, fun e => by cases e⟩
theorem EmJ.app2 {A A1 : Option Addr} {c c1 : Nat} (h : EmJ w0 base rs x l act w) (hA : act.tmps.getD 25 undef = .slice A 0 c) (h0 : l.getD 0 false = true) (h2 : l.getD 2 false = false) (hls : 2 < l.size) (hn : 27 < act.tmps.size)
    (ho : OwnS w' base (.slice A1 (0 + rs.length) c1) rs) (hg : w.grownBy w' (blk A)) (hl : blk A1 = blk A ∨ blk A1 = some w.heap.size) :
    EmJ w0 base rs x (l.setIfInBounds 2 true) (act.put (some 27) (.slice A1 (0 + rs.length) c1)) w' := by
  obtain ⟨A2, c2, hb, hs, g0, g1, g2, g3⟩ := h
  obtain ⟨e1, e2⟩ := g1 h0 h2
  rw [hA] at e1
  injection e1 with e1 _ e3
  subst e1 e3
  rw [Nat.zero_add] at ho ⊢
  refine ⟨A1, c1, hb.grown hg hs fun k hk => (own_lt e2 k hk).1, Nat.le_trans hs hg.size, ?_, ?_, ?_, ?_⟩
  · rw [getD_set_ne (by decide), h0]; intro k; cases k
  · rw [getD_set_eq hls]; intro _ k; cases k
  · intro _; exact ⟨by simp [Act.put, Array.getD_eq_getD_getElem?, hn], ho⟩
  · rw [getD_set_ne (by decide)]; exact fun k => ((g3 k).app hg hl).put_t (by decide) _
end
end Go.Proofs.YtfdngdnnjmcigaaDoor
