/- What span's laws share: awake, an own slice beside a memory, blocks beside it. No condition. -/
import Derived.Test.YtoifejinppjeeaaMemAll
import Derived.Test.YtoifejinppjeeaaSame5
import Derived.Test.YtoifejinppjeeaaEngQ
import Derived.KernelRfl
namespace Go.Proofs.Ytoifejinppjeeaa
open Go.RowKit
set_option linter.unusedVariables false
set_option linter.unusedSimpArgs false
theorem spAwake_any (w : World) : Calls Try.prog 19 #[] w fun e w' => e = .returned (.bool true) ∧ Below w.heap.size w w' :=
  Eng.isTrue_ok (by kernel_rfl) (by kernel_rfl) (lf := 5000) (d := 200) (by kernel_rfl) w
theorem OwnU.empty' (w : World) (base : Nat) (hb : base ≤ w.heap.size) : OwnU (w.alloc (.cells #[] 22)) base (some ⟨w.heap.size, 0, none⟩) [] 0 :=
  World.ownsRow_lit (e := 22) (size := 1) (base := base) w #[] 0 hb (by unfold maxLen; omega) rfl
theorem MFr.ownU {w w' : World} {own own' : Nat → Nat} {base q c : Nat} {ws : List (BitVec 64)} (hf : MFr w w' own own') (h : OwnU w base (some ⟨q, 0, none⟩) ws c) (h0 : own q = 0) : OwnU w' base (some ⟨q, 0, none⟩) ws c ∧ own' q = 0 := by
  have hq := (h.lt q rfl).2
  refine ⟨own_same h fun k hk => ?_, (hf.kept q hq).trans h0⟩
  obtain rfl : q = k := Option.some.inj hk
  exact hf.block q hq (.inl h0)
/-- A block that is not the memory's is written. -/
theorem MemAt.other {w : World} {m : Nat} {own : Nat → Nat} {G : MG} {a : AM} (h : MemAt w m own G a) {q i : Nat} (h0 : own q = 0) (v : Value) : MemAt (w.setCell ⟨q, i, none⟩ v) m own G a :=
  h.same (by simp [World.setCell]) fun k hk hne => Below.heap_setCell _ _ _ _ (by simp; rintro rfl; exact hne h0)
theorem heap_other {w : World} {q i k : Nat} {o : Obj} (h : w.heap[k]? = some o) (hne : k ≠ q) (v : Value) : (w.setCell ⟨q, i, none⟩ v).heap[k]? = some o := (Below.heap_setCell _ _ _ _ (by simpa using hne)).trans h
theorem rdU_slice {w : World} {g lo n : Nat} {ws : List (BitVec 64)} (h : RdU w (some ⟨g, 0, none⟩) ws) : RdU w (some ⟨g, lo, none⟩) ((ws.drop lo).take n) := by
  have := (RdF.drop h lo).take n
  rwa [Nat.zero_add] at this
end Go.Proofs.Ytoifejinppjeeaa
