/- What a push leaves of the counts. No program in sight. -/
import Derived.Test.YtoifejinppjeeaaPushRoom
import Derived.Test.YtoifejinppjeeaaMemPlain
namespace Go.Proofs.Ytoifejinppjeeaa
open Go.RowKit
set_option linter.unusedVariables false
set_option linter.unusedSimpArgs false
theorem AM.cnt.crash' {a : AM} {N : Nat} (h : a.cnt N) (ks : List Int) : (a.crash ks).cnt N := by
  unfold AM.crash
  split
  · exact h
  · exact ⟨by simp, h.c1, h.c2, h.c3⟩
theorem AM.cnt.fence' {a : AM} {N : Nat} (h : a.cnt N) : a.fence.1.cnt (N + 1) := by
  unfold AM.fence
  split
  · exact h.mono (Nat.le_succ _)
  · split
    · exact h.burn.mono (Nat.le_succ _)
    · have hb := h.burn
      have h1 := hb.c1
      have h2 := hb.c2
      have h3 := hb.c3
      exact ⟨hb.f1, by simp only; omega, by simp only; omega, by simp only; omega⟩
theorem AM.cnt.sets : ∀ (us : List (BitVec 64)) {a : AM} {N : Nat} (f n z : Int), a.cnt N → (a.sets f n z us).1.cnt (N + us.length)
  | [], a, N, f, n, z, h => h
  | u :: us, a, N, f, n, z, h => by
    show (if (a.set f n z u).2 = 0 then AM.sets (a.set f n z u).1 f n (z + 1) us else a.set f n z u).1.cnt _
    split
    · exact (AM.cnt.sets us f n (z + 1) (h.set f n z u)).mono (by simp; omega)
    · exact (h.set f n z u).mono (by simp)
theorem AM.cnt.push {a : AM} {N : Nat} (h : a.cnt N) (f n z : Int) (us : List (BitVec 64)) : (a.push f n z us).1.cnt (N + us.length + 2) := by
  have hs := AM.cnt.sets us f n z h
  unfold AM.push
  split
  · split
    · split
      · exact (hs.flush _).fence'
      · exact (hs.flush _).mono (by omega)
    · exact hs.mono (by omega)
  · exact h.mono (by omega)
theorem sets_len : ∀ (us : List (BitVec 64)) {a : AM} (f n z : Int), (a.sets f n z us).1.ls.length = a.ls.length
  | [], a, f, n, z => rfl
  | u :: us, a, f, n, z => by
    show (if (a.set f n z u).2 = 0 then AM.sets (a.set f n z u).1 f n (z + 1) us else a.set f n z u).1.ls.length = _
    split
    · exact (sets_len us f n (z + 1)).trans (set_len' _ _ _ _ _)
    · exact set_len' _ _ _ _ _
theorem flush_len (a : AM) (zs : List Int) : (a.flush zs).1.ls.length = a.ls.length := by
  unfold AM.flush
  split
  · rfl
  · split
    · rfl
    · split
      · exact burn_len _
      · exact (flushL_len _ _).trans (burn_len _)
theorem fence_len (a : AM) : a.fence.1.ls.length = a.ls.length := by
  unfold AM.fence
  split
  · rfl
  · split
    · exact burn_len _
    · exact (List.length_map _).trans (burn_len _)
theorem push_len (a : AM) (f n z : Int) (us : List (BitVec 64)) : (a.push f n z us).1.ls.length = a.ls.length := by
  have hs := sets_len us (a := a) f n z
  unfold AM.push
  split
  · split
    · split
      · exact (fence_len _).trans ((flush_len _ _).trans hs)
      · exact (flush_len _ _).trans hs
    · exact hs
  · rfl
end Go.Proofs.Ytoifejinppjeeaa
