/- Two memories beside one another: none has a block of the other. Plain laws. No condition. -/
import Derived.Test.YtoifejinppjeeaaPmLaw
namespace Go.Proofs.Ytoifejinppjeeaa
open Go.RowKit
set_option linter.unusedVariables false
set_option linter.unusedSimpArgs false
structure Two (w0 w : World) (m : Nat) (o : Nat → Nat) (G : MG) (a : AM) (n : Nat) (p : Nat → Nat) (H : MG) (b : AM) : Prop where
  l : MemAt w m o G a
  r : MemAt w n p H b
  ap : ∀ k, o k = 0 ∨ p k = 0
  low : ∀ k, k < w0.heap.size → o k = 0 ∧ p k = 0
  hb : Below w0.heap.size w0 w
section
variable {w0 w w' : World} {m n : Nat} {o o' p p' : Nat → Nat} {G H : MG} {a a' b b' : AM}
theorem Two.below (h : Two w0 w m o G a n p H b) (k : Below w.heap.size w w') : Two w0 w' m o G a n p H b :=
  ⟨h.l.below k, h.r.below k, h.ap, h.low, h.hb.trans (k.mono h.hb.size)⟩
theorem Two.fst (h : Two w0 w m o G a n p H b) (hm : MemAt w' m o' G a') (hf : MFr w w' o o') : Two w0 w' m o' G a' n p H b := by
  have hz : ∀ q, q < w.heap.size → p q ≠ 0 → o q = 0 := fun q _ hq => (h.ap q).resolve_right hq
  refine ⟨hm, h.r.same hf.size fun q hq h0 => hf.block q hq (.inl (hz q hq h0)), fun k => ?_, fun k hk => ⟨?_, (h.low k hk).2⟩, h.hb.trans (hf.below h.hb.size fun k hk => (h.low k hk).1)⟩
  · rcases Nat.lt_or_ge k w.heap.size with hk | hk
    · rw [hf.kept k hk]; exact h.ap k
    · exact .inr (h.r.fresh k hk)
  · rw [hf.kept k (Nat.lt_of_lt_of_le hk h.hb.size)]; exact (h.low k hk).1
theorem Two.snd (h : Two w0 w m o G a n p H b) (hm : MemAt w' n p' H b') (hf : MFr w w' p p') : Two w0 w' m o G a n p' H b' := by
  refine ⟨h.l.same hf.size fun q hq h0 => hf.block q hq (.inl ((h.ap q).resolve_left h0)), hm, fun k => ?_, fun k hk => ⟨(h.low k hk).1, ?_⟩, h.hb.trans (hf.below h.hb.size fun k hk => (h.low k hk).2)⟩
  · rcases Nat.lt_or_ge k w.heap.size with hk | hk
    · rw [hf.kept k hk]; exact h.ap k
    · exact .inl (h.l.fresh k hk)
  · rw [hf.kept k (Nat.lt_of_lt_of_le hk h.hb.size)]; exact (h.low k hk).2
end
end Go.Proofs.Ytoifejinppjeeaa
