/- The walks of package line: New, Store, Flush, Open, Sure. Conditions: those of LineAt. -/
import Derived.Test.YtoifejinppjeeaaLine
namespace Go.Proofs.Ytoifejinppjeeaa
open Go.RowKit
set_option linter.unusedVariables false
set_option linter.unusedSimpArgs false
def z8 : List (BitVec 64) := List.replicate 8 0#64
theorem lNew_any (w : World) :
    Calls Try.prog 84 #[.slice none 0 0] w fun e w' => e = .returned (.pointer (some ⟨w.heap.size, 0, none⟩)) ∧ LineAt w' w.heap.size z8 [] none 0 0 ∧ Below w.heap.size w w' := by
  have hcp := run_copy_nil (P := Try.prog) (w.alloc (.cells #[.int .u64 0, .int .u64 0, .int .u64 0, .int .u64 0, .int .u64 0, .int .u64 0, .int .u64 0, .int .u64 0, .slice none 0 0, .int .i64 0] 143)) 44 44 3 22 ⟨w.heap.size, 0, none⟩ 8 8 Try.underlying44 (by kernel_rfl)
  have HN := Lib.hid (show LineAt (w.alloc (.cells #[.int .u64 0, .int .u64 0, .int .u64 0, .int .u64 0, .int .u64 0, .int .u64 0, .int .u64 0, .int .u64 0, .slice none 0 0, .int .i64 0] 143)) w.heap.size z8 [] none 0 0 from
    ⟨by
      rw [heap_alloc_new]
      rw [show (Value.int .u64 0) = U 0#64 from U_lit 0 (by omega) (by omega)]
      rfl, rfl, OwnS.nil_ _ _⟩)
  have HB := Lib.hid ((Below.refl w.heap.size w).alloc (Nat.le_refl _) (.cells #[.int .u64 0, .int .u64 0, .int .u64 0, .int .u64 0, .int .u64 0, .int .u64 0, .int .u64 0, .int .u64 0, .slice none 0 0, .int .i64 0] 143))
  go_enter Try.func84, Try.ntmps84
  go_wp2
  go_ret
  exact ⟨rfl, HN.out, HB.out⟩
set_option maxRecDepth 100000 in
theorem lStore_any (x : Nat) (ss : List (BitVec 64)) (os : List St) (B : Option Addr) (d : Nat) (fl : Int) (z : Int) (v : BitVec 64) (w : World) (h : LineAt w x ss os B d fl) (hn : os.length ≤ 1000) :
    Calls Try.prog 74 #[.pointer (some ⟨x, 0, none⟩), .int .i64 z, U v] w fun e w' => e = .returned (.bool (decide (0 ≤ z ∧ z < 8))) ∧
      (∃ B' d', LineAt w' x ss (if 0 ≤ z ∧ z < 8 then os ++ [(z, v)] else os) B' d' fl ∧ ∀ k, blk B' = some k → blk B = some k ∨ w.heap.size ≤ k) ∧ Fr w w' x (blk B) := by
  have HA := Lib.hid h
  have hc8 := h.c8
  have hf8 := h.fz 8
  clear h
  by_cases hz : z < 0
  · have hd : decide (0 ≤ z ∧ z < 8) = false := decide_eq_false (by omega)
    have hi : ¬ (0 ≤ z ∧ z < 8) := by omega
    rw [hd]
    simp only [if_neg hi]
    clear hi hd
    go_enter Try.func74, Try.ntmps74
    go_wp2
    go_ret
    refine ⟨rfl, ?_, ⟨rfl, rfl, rfl, Nat.le_refl _, fun _ _ _ _ => rfl⟩⟩
    first | exact ⟨B, d, HA.out, fun k hk => .inl hk⟩ | exact ⟨B, ⟨d, HA.out⟩, fun k hk => .inl hk⟩
  by_cases hz8 : 8 ≤ z
  · have hd : decide (0 ≤ z ∧ z < 8) = false := decide_eq_false (by omega)
    have hi : ¬ (0 ≤ z ∧ z < 8) := by omega
    rw [hd]
    simp only [if_neg hi]
    clear hi hd
    go_enter Try.func74, Try.ntmps74
    go_wp2
    go_ret
    refine ⟨rfl, ?_, ⟨rfl, rfl, rfl, Nat.le_refl _, fun _ _ _ _ => rfl⟩⟩
    first | exact ⟨B, d, HA.out, fun k hk => .inl hk⟩ | exact ⟨B, ⟨d, HA.out⟩, fun k hk => .inl hk⟩
  have hd : decide (0 ≤ z ∧ z < 8) = true := decide_eq_true (by omega)
  have hi : (0 ≤ z ∧ z < 8) := by omega
  rw [hd]
  simp only [if_pos hi]
  clear hi hd
  have hxl := HA.out.lt
  go_enter Try.func74, Try.ntmps74
  go_wp2_with (first | go_skip | (at_builtin; refine stop_ ?_))
  have hbx : Below w.heap.size w (w.alloc (.cells #[.int .i64 z, U v] 145)) := (Below.refl _ _).alloc (Nat.le_refl _) _
  have HA1 := HA.out.below hbx
  have hrd : RdW (w.alloc (.cells #[.int .i64 z, U v] 145)) (some ⟨w.heap.size, 0, none⟩) [(z, v)] := by
    refine .inr ⟨w.heap.size, 0, rfl, fun k hk => ?_⟩
    obtain rfl : k = 0 := by simpa using hk
    exact ⟨Lib.cell_of_heap (heap_alloc_new w _) 0, Lib.cell_of_heap (heap_alloc_new w _) 1⟩
  refine appS (.tmp 17) (.tmp 21) rfl rfl (x + 1) B os _ d rfl rfl HA1.own (some ⟨w.heap.size, 0, none⟩) [(z, v)] 1 1 rfl rfl hrd (by simp; omega) (by simp; omega) ?_
  intro B2 us d2 w2 hus hown2 hg2 hnew
  have hne : ¬ some x = blk B := fun e => HA.out.bne e.symm
  have hb2 := (hg2.block x (by simp; omega) hne).trans HA1.blk
  have hcx : w2.cell? ⟨x, 8, none⟩ = some (.slice B os.length d) := by
    have e := Lib.cell_of_heap hb2 8
    rw [e]
    simp [HA.out.len]
  have hfx : w2.frozen? ⟨x, 8, none⟩ = false := Lib.frozen_of_heap hb2 8
  have HN := Lib.hid (LineAt.setOpen hb2 HA.out.len hown2)
  have HS := Lib.hid hg2.size
  have HF := Lib.hid (show Fr w (w2.setCell ⟨x, 8, none⟩ (.slice B2 us.length d2)) x (blk B) from
    ⟨hg2.os, hg2.tape, hg2.output, by have := hg2.size; simp [World.setCell] at *; omega, fun k hk h1 h2 => by
      rw [Below.heap_setCell _ _ _ _ (by simpa using h1), hg2.block k (by simp; omega) (fun e => h2 e.symm), Lib.alloc_old _ _ _ hk]⟩)
  have HNEW := Lib.hid hnew
  have HU := Lib.hid hus
  clear hbx HA1 hrd hus hown2 hg2 hnew hne hb2
  unfold Stop
  go_wp2
  go_ret
  refine ⟨rfl, ⟨B2, d2, by rw [← HU.out]; exact HN.out, fun k hk => ?_⟩, HF.out⟩
  rcases HNEW.out with e | e
  · exact .inl (by rw [← e]; exact hk)
  · rw [e] at hk
    cases hk
    exact .inr (by simp)
theorem lFlush_any (x : Nat) (ss : List (BitVec 64)) (os : List St) (B : Option Addr) (d : Nat) (fl : Int) (w : World) (h : LineAt w x ss os B d fl) :
    Calls Try.prog 77 #[.pointer (some ⟨x, 0, none⟩)] w fun e w' => e = .returned (.tuple #[]) ∧ LineAt w' x ss os B d os.length ∧ Fr w w' x (blk B) := by
  have HA := Lib.hid h
  have hc8 := h.c8
  have hc9 := h.c9
  have hf9 := h.fz 9
  clear h
  go_enter Try.func77, Try.ntmps77
  have HN := Lib.hid (HA.out.setFl os.length)
  have HF := Lib.hid (show Fr w (w.setCell ⟨x, 9, none⟩ (.int .i64 os.length)) x (blk B) from
    ⟨rfl, rfl, rfl, by simp [World.setCell], fun k hk h1 h2 => Below.heap_setCell _ _ _ _ (by simpa using h1)⟩)
  go_wp2
  go_end0
  exact ⟨rfl, HN.out, HF.out⟩
theorem lOpen_any (x : Nat) (ss : List (BitVec 64)) (os : List St) (B : Option Addr) (d : Nat) (fl : Int) (w : World) (h : LineAt w x ss os B d fl) :
    Calls Try.prog 80 #[.pointer (some ⟨x, 0, none⟩)] w fun e w' => e = .returned (.int .i64 os.length) ∧ w = w' := by
  have hc8 := h.c8
  clear h
  go_enter Try.func80, Try.ntmps80
  go_wp2
  go_ret
  exact ⟨rfl, rfl⟩
end Go.Proofs.Ytoifejinppjeeaa
