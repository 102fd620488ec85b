/- Two slices of strings that a call owns, appended to in one region, in whatever order. No condition. -/
import Derived.Test.YtfdngdnnjmcigaaDoorPath5
import Derived.Test.YtfdngdnnjmcigaaDoorRegion5
namespace Go.Proofs.YtfdngdnnjmcigaaDoor
open Go.RowKit
set_option linter.unusedVariables false
set_option linter.unusedSimpArgs false
theorem infoS : (Tryd.prog.info? 9).map (fun i => (i.zero, i.size, i.bytes)) = some (some (.string ByteArray.empty), 1, 16) := by kernel_rfl
theorem heap_lt {w : World} {q : Nat} {o : Obj} (h : w.heap[q]? = some o) : q < w.heap.size := (Array.getElem?_eq_some_iff.1 h).1
theorem heap_below {w w' : World} {q : Nat} {o : Obj} (h : w.heap[q]? = some o) (hb : Below w.heap.size w w') : w'.heap[q]? = some o := by rw [hb.block q (heap_lt h)]; exact h
/-- Two slices of strings that the call owns, in two blocks. -/
structure Two2 (w : World) (base : Nat) (A : Option Addr) (c : Nat) (la : List ByteArray) (B : Option Addr) (d : Nat) (lb : List ByteArray) : Prop where
  a : OwnS w base (.slice A la.length c) la
  b : OwnS w base (.slice B lb.length d) lb
  ne : ∀ q, blk A = some q → blk B = some q → False
section
variable {w w' : World} {base : Nat} {A B A' : Option Addr} {c d c' : Nat} {la lb xs : List ByteArray}
theorem Two2.swap (h : Two2 w base A c la B d lb) : Two2 w base B d lb A c la := ⟨h.b, h.a, fun q h1 h2 => h.ne q h2 h1⟩
theorem Two2.below (h : Two2 w base A c la B d lb) (hb : Below w.heap.size w w') : Two2 w' base A c la B d lb := ⟨own_below h.a hb, own_below h.b hb, h.ne⟩
theorem Two2.nil (w : World) (base : Nat) : Two2 w base none 0 [] none 0 [] := ⟨OwnS.nil _ _, OwnS.nil _ _, fun q h => by cases h⟩
theorem Two2.app {zs : List ByteArray} (h : Two2 w base A c la B d lb) (ho : OwnS w' base (.slice A' zs.length c') zs) (hg : w.grownBy w' (blk A)) (hl : blk A' = blk A ∨ blk A' = some w.heap.size) : Two2 w' base A' c' zs B d lb := by
  refine ⟨ho, own_kept h.b hg ?_, fun q h1 h2 => ?_⟩
  · cases hB : blk B with
    | none => exact .inl rfl
    | some q => exact .inr fun e => h.ne q e.symm hB
  · rcases hl with e | e
    · rw [e] at h1; exact h.ne q h1 h2
    · rw [e] at h1
      injection h1 with h1
      have := (own_lt h.b q h2).2
      omega
end
/-- A block of one text that the region has made. -/
def BxS (act : Act) (t : Nat) (x : ByteArray) (A B : Option Addr) (w : World) : Prop := ∃ q, act.tmps.getD t undef = .slice (some ⟨q, 0, none⟩) 1 1 ∧ w.heap[q]? = some (.cells #[.string x] 9 (0, 0)) ∧ blk A ≠ some q ∧ blk B ≠ some q
/-- Where the region stands: ba, fa: the first slice's text is made, appended; bb, fb: the second one's. -/
def DotJ (w0 : World) (base : Nat) (A : Option Addr) (c : Nat) (la : List ByteArray) (B : Option Addr) (d : Nat) (lb : List ByteArray) (x : ByteArray) (l : Array Bool) (act : Act) (w : World) : Prop :=
  ∃ A1 c1 B1 d1, Two2 w base A1 c1 (if l.getD 6 false = true then la ++ [x] else la) B1 d1 (if l.getD 13 false = true then lb ++ [x] else lb) ∧ Below base w0 w ∧ base ≤ w.heap.size ∧
    (l.getD 6 false = true → act.tmps.getD 70 undef = .slice A1 (la.length + 1) c1) ∧ (l.getD 6 false = false → A1 = A ∧ c1 = c) ∧
    (l.getD 13 false = true → act.tmps.getD 77 undef = .slice B1 (lb.length + 1) d1) ∧ (l.getD 13 false = false → B1 = B ∧ d1 = d) ∧
    (l.getD 5 false = true → BxS act 69 x A1 B1 w) ∧ (l.getD 12 false = true → BxS act 76 x A1 B1 w)
section
variable {w0 w w' : World} {base : Nat} {A B A' : Option Addr} {c d c' : Nat} {la lb : List ByteArray} {x : ByteArray} {l : Array Bool} {act : Act} {t q : Nat}
theorem BxS.put (h : BxS act t x A B w) {op : Oper} (hu : op.dst ≠ some t) (v : Value) : BxS (act.put op.dst v) t x A B w := by
  unfold BxS
  rw [getD_put_ne hu]
  exact h
theorem getD_put_t {a : Act} {u t : Nat} {v : Value} (h : u ≠ t) : (a.put (some u) v).tmps.getD t undef = a.tmps.getD t undef := by
  simp [Act.put, Array.getD_eq_getD_getElem?, Array.getElem?_setIfInBounds, h]
theorem BxS.put_t (h : BxS act t x A B w) {u : Nat} (hu : u ≠ t) (v : Value) : BxS (act.put (some u) v) t x A B w := by
  unfold BxS
  rw [getD_put_t hu]
  exact h
theorem BxS.swap (h : BxS act t x A B w) : BxS act t x B A w := by
  obtain ⟨q, h1, h2, h3, h4⟩ := h
  exact ⟨q, h1, h2, h4, h3⟩
theorem BxS.below (h : BxS act t x A B w) (hf : Below w.heap.size w w') : BxS act t x A B w' := by
  obtain ⟨q, h1, h2, h3, h4⟩ := h
  exact ⟨q, h1, heap_below h2 hf, h3, h4⟩
theorem BxS.app (h : BxS act t x A B w) (hg : w.grownBy w' (blk A)) (hl : blk A' = blk A ∨ blk A' = some w.heap.size) : BxS act t x A' B w' := by
  obtain ⟨q, h1, h2, h3, h4⟩ := h
  refine ⟨q, h1, (hg.block q (heap_lt h2) fun e => h3 e.symm).trans h2, fun e => ?_, h4⟩
  rcases hl with k | k
  · exact h3 (k ▸ e)
  · rw [k] at e
    injection e with e
    have := heap_lt h2
    omega
theorem DotJ.hb (h : DotJ w0 base A c la B d lb x l act w) : Below base w0 w := by
  obtain ⟨_, _, _, _, _, h, _⟩ := h
  exact h
theorem DotJ.start (h : Two2 w base A c la B d lb) (hw : base ≤ w.heap.size) (n : Nat) : DotJ w base A c la B d lb x (Array.replicate n false) act w.drew := by
  have hbd : Below w.heap.size w w.drew := Stood.cur (Stood.refl _)
  have e : ∀ j, (Array.replicate n false).getD j false = false := fun j => by
    rw [Array.getD_eq_getD_getElem?, Array.getElem?_replicate]
    split <;> rfl
  refine ⟨A, c, B, d, ?_, hbd.mono hw, Nat.le_trans hw hbd.size, fun k => ?_, fun _ => ⟨rfl, rfl⟩, fun k => ?_, fun _ => ⟨rfl, rfl⟩, fun k => ?_, fun k => ?_⟩
  · rw [e, e]; exact h.below hbd
  all_goals rw [e] at k; cases k
theorem DotJ.quiet (h : DotJ w0 base A c la B d lb x l act w) {i : Nat} (hi : i ≠ 5 ∧ i ≠ 6 ∧ i ≠ 12 ∧ i ≠ 13) {op : Oper} (ho : op.dst ≠ some 69 ∧ op.dst ≠ some 70 ∧ op.dst ≠ some 76 ∧ op.dst ≠ some 77) (v : Value) : DotJ w0 base A c la B d lb x (l.setIfInBounds i true) (act.put op.dst v) w := by
  obtain ⟨A1, c1, B1, d1, h0, hb, hs, h1, h2, h3, h4, h5, h6⟩ := h
  obtain ⟨i1, i2, i3, i4⟩ := hi
  obtain ⟨o1, o2, o3, o4⟩ := ho
  refine ⟨A1, c1, B1, d1, ?_, hb, hs, ?_, ?_, ?_, ?_, ?_, ?_⟩
  · rw [getD_set_ne i2, getD_set_ne i4]; exact h0
  · rw [getD_set_ne i2, getD_put_ne o2]; exact h1
  · rw [getD_set_ne i2]; exact h2
  · rw [getD_set_ne i4, getD_put_ne o4]; exact h3
  · rw [getD_set_ne i4]; exact h4
  · rw [getD_set_ne i1]; exact fun k => (h5 k).put o1 _
  · rw [getD_set_ne i3]; exact fun k => (h6 k).put o3 _
/-- the text's block is made -/
theorem DotJ.made5 (h : DotJ w0 base A c la B d lb x l act w) (hn : 69 < act.tmps.size) : DotJ w0 base A c la B d lb x (l.setIfInBounds 5 true) (act.put (some 69) (.slice (some ⟨w.heap.size, 0, none⟩) 1 1)) (w.alloc (.cells #[.string x] 9)) := by
  obtain ⟨A1, c1, B1, d1, h0, hb, hs, h1, h2, h3, h4, h5, h6⟩ := h
  have hal : Below w.heap.size w (w.alloc (.cells #[.string x] 9)) := (Below.refl _ _).alloc (Nat.le_refl _) _
  have nA : ∀ B' : Option Addr, (∀ q, blk B' = some q → q < w.heap.size) → blk B' ≠ some w.heap.size := fun B' h e => by have := h _ e; omega
  refine ⟨A1, c1, B1, d1, ?_, hb.alloc (by omega) _, by rw [World.size_alloc]; omega, ?_, ?_, ?_, ?_, ?_, ?_⟩
  · rw [getD_set_ne (by decide), getD_set_ne (by decide)]; exact h0.below hal
  · rw [getD_set_ne (by decide)]; intro k; rw [← h1 k]; exact getD_put_t (by decide)
  · rw [getD_set_ne (by decide)]; exact h2
  · rw [getD_set_ne (by decide)]; intro k; rw [← h3 k]; exact getD_put_t (by decide)
  · rw [getD_set_ne (by decide)]; exact h4
  · intro _
    exact ⟨w.heap.size, by simp [Act.put, Array.getD_eq_getD_getElem?, hn], heap_alloc_new w _, nA _ fun q e => (own_lt h0.a q e).2, nA _ fun q e => (own_lt h0.b q e).2⟩
  · rw [getD_set_ne (by decide)]; exact fun k => ((h6 k).below hal).put_t (by decide) _
/-- the other text's block is made -/
theorem DotJ.made12 (h : DotJ w0 base A c la B d lb x l act w) (hn : 76 < act.tmps.size) : DotJ w0 base A c la B d lb x (l.setIfInBounds 12 true) (act.put (some 76) (.slice (some ⟨w.heap.size, 0, none⟩) 1 1)) (w.alloc (.cells #[.string x] 9)) := by
  obtain ⟨A1, c1, B1, d1, h0, hb, hs, h1, h2, h3, h4, h5, h6⟩ := h
  have hal : Below w.heap.size w (w.alloc (.cells #[.string x] 9)) := (Below.refl _ _).alloc (Nat.le_refl _) _
  have nA : ∀ B' : Option Addr, (∀ q, blk B' = some q → q < w.heap.size) → blk B' ≠ some w.heap.size := fun B' h e => by have := h _ e; omega
  refine ⟨A1, c1, B1, d1, ?_, hb.alloc (by omega) _, by rw [World.size_alloc]; omega, ?_, ?_, ?_, ?_, ?_, ?_⟩
  · rw [getD_set_ne (by decide), getD_set_ne (by decide)]; exact h0.below hal
  · rw [getD_set_ne (by decide)]; intro k; rw [← h1 k]; exact getD_put_t (by decide)
  · rw [getD_set_ne (by decide)]; exact h2
  · rw [getD_set_ne (by decide)]; intro k; rw [← h3 k]; exact getD_put_t (by decide)
  · rw [getD_set_ne (by decide)]; exact h4
  · rw [getD_set_ne (by decide)]; exact fun k => ((h5 k).below hal).put_t (by decide) _
  · intro _
    exact ⟨w.heap.size, by simp [Act.put, Array.getD_eq_getD_getElem?, hn], heap_alloc_new w _, nA _ fun q e => (own_lt h0.a q e).2, nA _ fun q e => (own_lt h0.b q e).2⟩
/-- the first append -/
theorem DotJ.app6 {A1 : Option Addr} {c1 : Nat} (h : DotJ w0 base A c la B d lb x l act w) (h6 : l.getD 6 false = false) (hls : 6 < l.size) (hn : 70 < act.tmps.size)
    (ho : OwnS w' base (.slice A1 (la ++ [x]).length c1) (la ++ [x])) (hg : w.grownBy w' (blk A)) (hl : blk A1 = blk A ∨ blk A1 = some w.heap.size) :
    DotJ w0 base A c la B d lb x (l.setIfInBounds 6 true) (act.put (some 70) (.slice A1 (la.length + 1) c1)) w' := by
  obtain ⟨A2, c2, B1, d1, h0, hb, hs, h1, h2, h3, h4, h5, hq⟩ := h
  obtain ⟨rfl, rfl⟩ := h2 h6
  rw [h6] at h0
  simp only [Bool.false_eq_true, if_false] at h0
  refine ⟨A1, c1, B1, d1, ?_, hb.grown hg hs fun k hk => (own_lt h0.a k hk).1, Nat.le_trans hs hg.size, ?_, ?_, ?_, ?_, ?_, ?_⟩
  · rw [getD_set_eq hls, getD_set_ne (by decide), if_pos rfl]; exact h0.app ho hg hl
  · intro _; simp [Act.put, Array.getD_eq_getD_getElem?, hn]
  · rw [getD_set_eq hls]; intro k; cases k
  · rw [getD_set_ne (by decide)]; intro k; rw [← h3 k]; exact getD_put_t (by decide)
  · rw [getD_set_ne (by decide)]; exact h4
  · rw [getD_set_ne (by decide)]; exact fun k => ((h5 k).app hg hl).put_t (by decide) _
  · rw [getD_set_ne (by decide)]; exact fun k => ((hq k).app hg hl).put_t (by decide) _
/-- the second append -/
theorem DotJ.app13 {B1 : Option Addr} {d1 : Nat} (h : DotJ w0 base A c la B d lb x l act w) (h6 : l.getD 13 false = false) (hls : 13 < l.size) (hn : 77 < act.tmps.size)
    (ho : OwnS w' base (.slice B1 (lb ++ [x]).length d1) (lb ++ [x])) (hg : w.grownBy w' (blk B)) (hl : blk B1 = blk B ∨ blk B1 = some w.heap.size) :
    DotJ w0 base A c la B d lb x (l.setIfInBounds 13 true) (act.put (some 77) (.slice B1 (lb.length + 1) d1)) w' := by
  obtain ⟨A2, c2, B2, d2, h0, hb, hs, h1, h2, h3, h4, h5, hq⟩ := h
  obtain ⟨rfl, rfl⟩ := h4 h6
  rw [h6] at h0
  simp only [Bool.false_eq_true, if_false] at h0
  refine ⟨A2, c2, B1, d1, ?_, hb.grown hg hs fun k hk => (own_lt h0.b k hk).1, Nat.le_trans hs hg.size, ?_, ?_, ?_, ?_, ?_, ?_⟩
  · rw [getD_set_eq hls, getD_set_ne (by decide), if_pos rfl]; exact (h0.swap.app ho hg hl).swap
  · rw [getD_set_ne (by decide)]; intro k; rw [← h1 k]; exact getD_put_t (by decide)
  · rw [getD_set_ne (by decide)]; exact h2
  · intro _; simp [Act.put, Array.getD_eq_getD_getElem?, hn]
  · rw [getD_set_eq hls]; intro k; cases k
  · rw [getD_set_ne (by decide)]; exact fun k => (((h5 k).swap.app hg hl).swap).put_t (by decide) _
  · rw [getD_set_ne (by decide)]; exact fun k => (((hq k).swap.app hg hl).swap).put_t (by decide) _
end
end Go.Proofs.YtfdngdnnjmcigaaDoor
