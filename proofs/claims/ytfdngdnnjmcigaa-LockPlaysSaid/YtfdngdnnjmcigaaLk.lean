/- Rows of wants; the functions of package lock that only look at them. Condition: the slices can be read. -/
import Derived.Test.YtfdngdnnjmcigaaGen
import Derived.Test.YtfdngdnnjmcigaaCtx
import Derived.Test.YtfdngdnnjmcigaaLkShelf
import Derived.Maps.OwnSet
import Derived.Maps.RangeWalk
import Derived.BigQuiet
namespace Go.Proofs.Ytfdngdnnjmcigaa
open Go.RowKit
set_option linter.unusedVariables false
set_option linter.unusedSimpArgs false
abbrev Wt := Int × Bool
def encW (x : Wt) : List Value := [.int .i64 x.1, .bool x.2]
def wtV (x : Wt) : Value := .agg #[.int .i64 x.1, .bool x.2]
/-- The slice reads so. -/
def RdL (w : World) (A : Option Addr) (ws : List Wt) : Prop :=
  ws = [] ∨ ∃ b off, A = some ⟨b, off, none⟩ ∧ ∀ k, (h : k < ws.length) → w.cell? ⟨b, off + k * 2, none⟩ = some (.int .i64 ws[k].1) ∧ w.cell? ⟨b, off + k * 2 + 1, none⟩ = some (.bool ws[k].2)
theorem RdL.below {w w' : World} {A : Option Addr} {ws : List Wt} (h : RdL w A ws) (hb : Below w.heap.size w w') : RdL w' A ws := by
  rcases h with h | ⟨b, off, hA, hc⟩
  · exact .inl h
  · exact .inr ⟨b, off, hA, fun k hk => ⟨(hb.cell (p := ⟨b, off + k * 2, none⟩) (cell_lt (hc k hk).1)).trans (hc k hk).1, (hb.cell (p := ⟨b, off + k * 2 + 1, none⟩) (cell_lt (hc k hk).2)).trans (hc k hk).2⟩⟩
theorem RdL.at_ {w : World} {A : Option Addr} {ws : List Wt} (h : RdL w A ws) {k : Nat} (hk : k < ws.length) :
    ∃ b off, A = some ⟨b, off, none⟩ ∧ ∀ k, (h : k < ws.length) → w.cell? ⟨b, off + k * 2, none⟩ = some (.int .i64 ws[k].1) ∧ w.cell? ⟨b, off + k * 2 + 1, none⟩ = some (.bool ws[k].2) := by
  rcases h with h | h
  · rw [h] at hk; simp at hk
  · exact h
def apartB (a b : Wt) : Bool := (a.1 != b.1) || (!a.2 && !b.2)
def risesB : List Wt → Bool
  | x :: y :: r => decide (x.1 < y.1) && risesB (y :: r)
  | _ => true
theorem risesB_iff : ∀ ws : List Wt, risesB ws = true ↔ ∀ k, (h : k + 1 < ws.length) → ws[k].1 < ws[k + 1].1
  | [] => by simp [risesB]
  | [x] => by simp [risesB]
  | x :: y :: r => by
    rw [risesB, Bool.and_eq_true, decide_eq_true_eq, risesB_iff (y :: r)]
    constructor
    · rintro ⟨h1, h2⟩ k hk
      cases k with
      | zero => exact h1
      | succ k => exact h2 k (by simpa using hk)
    · intro h
      exact ⟨h 0 (by simp), fun k hk => h (k + 1) (by simpa using hk)⟩
set_option maxRecDepth 100000 in
set_option maxHeartbeats 4000000 in
theorem apart_any (a b : Wt) (w : World) : Calls Try.prog 21 #[wtV a, wtV b] w fun e w' => e = .returned (.bool (apartB a b)) ∧ Below w.heap.size w w' := by
  obtain ⟨k1, a1⟩ := a
  obtain ⟨k2, a2⟩ := b
  unfold wtV apartB
  by_cases hk : k1 = k2
  · subst hk
    have hne : (k1 != k1) = false := by simp
    cases a1 <;> cases a2
    all_goals
      go_enter Try.func21, Try.ntmps21
      go_wp2
      go_ret
      exact ⟨by simp, ((Below.refl w.heap.size w).alloc (Nat.le_refl _) _).alloc (by simp) _⟩
  · have hne : (k1 != k2) = true := by rw [bne_iff_ne]; exact hk
    go_enter Try.func21, Try.ntmps21
    go_wp2
    go_ret
    exact ⟨by rw [hne]; rfl, ((Below.refl w.heap.size w).alloc (Nat.le_refl _) _).alloc (by simp) _⟩
/-- What the closure of May says: the want in box g is not apart from it. -/
theorem mayClo_any (h : Wt) (g : Nat) (w : World) (hg : w.heap[g]? = some (.cells #[.int .i64 h.1, .bool h.2] 28 (0, 0))) :
    PredBelow Try.prog 20 #[.pointer (some ⟨g, 0, none⟩)] (fun x => .agg (encW x).toArray) (fun x => !apartB x h) w := fun W x hb => by
  have hlt := heap_lt hg
  have hW := (hb.block g hlt).trans hg
  have hal : Below W.heap.size W (W.alloc (.cells #[.int .i64 x.1, .bool x.2] 28)) := (Below.refl _ _).alloc (Nat.le_refl _) _
  have hs := hb.size
  have h2 := heap_below hW hal
  have h3 := heap_alloc_new W (.cells #[.int .i64 x.1, .bool x.2] 28)
  have c0 := Lib.cell_of_heap h2 0
  have c1 := Lib.cell_of_heap h2 1
  have d0 := Lib.cell_of_heap h3 0
  have d1 := Lib.cell_of_heap h3 1
  have KA := Lib.hid (apart_any x h (W.alloc (.cells #[.int .i64 x.1, .bool x.2] 28)))
  unfold wtV at KA
  have HB := Lib.hid (hb.alloc hs (.cells #[.int .i64 x.1, .bool x.2] 28))
  clear hal h2 h3 hW hb
  show Calls Try.prog 20 #[.agg #[.int .i64 x.1, .bool x.2], .pointer (some ⟨g, 0, none⟩)] W _
  go_enter Try.func20, Try.ntmps20
  go_wp2_with fail
  refine KA.out.mono ?_
  rintro e w1 ⟨rfl, hb1⟩
  have HB1 := Lib.hid (HB.out.trans (hb1.mono (by have := HB.out.size; exact this)))
  clear hb1
  go_wp2
  go_ret
  exact ⟨rfl, HB1.out⟩
/-- What the closure of Who says: it is for the key in box g. -/
theorem whoClo_any (key : Int) (g : Nat) (w : World) (hg : w.heap[g]? = some (.cells #[.int .i64 key] 3 (0, 0))) :
    PredBelow Try.prog 18 #[.pointer (some ⟨g, 0, none⟩)] (fun x => .agg (encW x).toArray) (fun x => x.1 == key) w := fun W x hb => by
  have hlt := heap_lt hg
  have hW := (hb.block g hlt).trans hg
  have hal : Below W.heap.size W (W.alloc (.cells #[.int .i64 x.1, .bool x.2] 28)) := (Below.refl _ _).alloc (Nat.le_refl _) _
  have hs := hb.size
  have h2 := heap_below hW hal
  have h3 := heap_alloc_new W (.cells #[.int .i64 x.1, .bool x.2] 28)
  have c0 := Lib.cell_of_heap h2 0
  have d0 := Lib.cell_of_heap h3 0
  have HB := Lib.hid (hb.alloc hs (.cells #[.int .i64 x.1, .bool x.2] 28))
  clear hal h2 h3 hW hb
  show Calls Try.prog 18 #[.agg #[.int .i64 x.1, .bool x.2], .pointer (some ⟨g, 0, none⟩)] W _
  go_enter Try.func18, Try.ntmps18
  go_wp2
  go_ret
  exact ⟨rfl, HB.out⟩
end Go.Proofs.Ytfdngdnnjmcigaa
