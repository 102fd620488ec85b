/- What room a push leaves. No program in sight. -/
import Derived.Test.YtoifejinppjeeaaSpanPlain
namespace Go.Proofs.Ytoifejinppjeeaa
open Go.RowKit
set_option linter.unusedVariables false
set_option linter.unusedSimpArgs false
theorem fence_room' {a : AM} {r : Nat} (h : a.room r) : a.fence.1.room r := by
  unfold AM.fence
  split
  · exact h
  · split
    · exact burn_room h
    · exact fence_room (burn_room h)
theorem sets_room : ∀ (us : List (BitVec 64)) {a : AM} {r : Nat} (f n z : Int), a.room r → (a.sets f n z us).1.room (r + us.length)
  | [], a, r, f, n, z, h => h
  | u :: us, a, r, f, n, z, h => by
    show (if (a.set f n z u).2 = 0 then AM.sets (a.set f n z u).1 f n (z + 1) us else a.set f n z u).1.room _
    split
    · exact room_mono (sets_room us f n (z + 1) (set_room h f n z u)) (by simp; omega)
    · exact room_mono (set_room h f n z u) (by simp)
theorem push_room {a : AM} {r : Nat} (h : a.room r) (f n z : Int) (us : List (BitVec 64)) : (a.push f n z us).1.room (r + us.length) := by
  have hs := sets_room us f n z h
  unfold AM.push
  split
  · split
    · split
      · exact fence_room' (flush_room hs _)
      · exact flush_room hs _
    · exact hs
  · exact room_mono h (Nat.le_add_right _ _)
end Go.Proofs.Ytoifejinppjeeaa
