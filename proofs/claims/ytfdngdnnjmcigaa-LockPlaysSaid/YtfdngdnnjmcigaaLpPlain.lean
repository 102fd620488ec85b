/- What the statement LockPlays carries: the law's own rows beside the table. No condition. -/
import Derived.Test.YtfdngdnnjmcigaaLkApp
namespace Go.Proofs.Ytfdngdnnjmcigaa
open Go.RowKit Go.Maps
set_option linter.unusedVariables false
set_option linter.unusedSimpArgs false
theorem RdL.turnJ {w0 w w' : World} {x b n : Nat} {T : Int → Sl} {A : Option Addr} {ws : List Wt} (h : RdL w A ws) (hj : LkJ w0 w x b n T) (hg : w.grownBy w' (some b)) : RdL w' A ws := by
  obtain ⟨D, ho, _⟩ := hj.lk.map
  exact h.turn ho hg
def updH (H : Nat → Sl) (p : Nat) (s : Sl) : Nat → Sl := fun q => if q = p then s else H q
theorem updH_self (H : Nat → Sl) (p : Nat) (s : Sl) : updH H p s p = s := if_pos rfl
theorem updH_ne (H : Nat → Sl) {p q : Nat} (s : Sl) (h : q ≠ p) : updH H p s q = H q := if_neg h
/-- The law's own rows, one for each of six. -/
def HvG (w : World) (g : Nat) (H : Nat → Sl) : Prop := ∃ cs, w.heap[g]? = some (.cells cs 36 (0, 0)) ∧ cs.size = 6 ∧ ∀ p, p < 6 → cs[p]? = some (slV (H p))
structure LpH (w0 w : World) (g : Nat) (H : Nat → Sl) : Prop where
  hat : HvG w g H
  glo : w0.heap.size ≤ g
  rd : ∀ p, p < 6 → RdL w (H p).1 (H p).2.1
section
variable {w0 w w' : World} {x b n g : Nat} {T : Int → Sl} {H : Nat → Sl} {A : Option Addr} {ws : List Wt}
theorem HvG.lt (h : HvG w g H) : g < w.heap.size := by obtain ⟨cs, h1, _⟩ := h; exact heap_lt h1
theorem HvG.cell (h : HvG w g H) {p : Nat} (hp : p < 6) : w.cell? ⟨g, p, none⟩ = some (.slice (H p).1 (H p).2.1.length (H p).2.2) := by
  obtain ⟨cs, h1, h2, h3⟩ := h
  exact (Lib.cell_of_heap h1 _).trans (h3 p hp)
theorem HvG.fz (h : HvG w g H) (i : Nat) : w.frozen? ⟨g, i, none⟩ = false := by obtain ⟨cs, h1, _⟩ := h; exact Lib.frozen_of_heap h1 i
theorem HvG.same (h : HvG w g H) (hb : w'.heap[g]? = w.heap[g]?) : HvG w' g H := by
  obtain ⟨cs, h1, h2, h3⟩ := h
  exact ⟨cs, hb.trans h1, h2, h3⟩
theorem HvG.set (h : HvG w g H) {p : Nat} (hp : p < 6) (s : Sl) : HvG (w.setCell ⟨g, p, none⟩ (slV s)) g (updH H p s) := by
  obtain ⟨cs, h1, h2, h3⟩ := h
  refine ⟨_, Go.Joins.block_setCell (i := p) (v := slV s) h1, by simp [h2], fun q hq => ?_⟩
  rw [Array.getElem?_setIfInBounds]
  by_cases e : p = q
  · subst e
    rw [if_pos rfl, if_pos (by omega), updH_self]
  · rw [if_neg e, updH_ne H s (fun h => e h.symm)]
    exact h3 q hq
/-- A row of wants does not lie among the slices. -/
theorem RdL.off (h : RdL w A ws) (hh : HvG w g H) (p : Nat) (v : Value) : RdL (w.setCell ⟨g, p, none⟩ v) A ws := by
  rcases h with h | ⟨q, off, hA, hc⟩
  · exact .inl h
  · refine .inr ⟨q, off, hA, fun k hk => ?_⟩
    obtain ⟨h1, h2⟩ := hc k hk
    have hne : q ≠ g := by
      rintro rfl
      obtain ⟨cs, hb, hs, hcs⟩ := hh
      rw [Lib.cell_of_heap hb] at h1
      have hlt : off + k * 2 < 6 := by
        have := (Array.getElem?_eq_some_iff.1 h1).1
        omega
      rw [hcs _ hlt] at h1
      unfold slV at h1
      injection h1 with h1
      cases h1
    have hb := Below.heap_setCell w ⟨g, p, none⟩ v q (by simpa using hne)
    exact ⟨(World.cell?_of_block hb).trans h1, (World.cell?_of_block hb).trans h2⟩
theorem LpH.below (h : LpH w0 w g H) (hb : Below w.heap.size w w') : LpH w0 w' g H := ⟨h.hat.same (hb.block g h.hat.lt), h.glo, fun p hp => (h.rd p hp).below hb⟩
theorem LpH.gb (h : LpH w0 w g H) (hj : LkJ w0 w x b n T) : g ≠ b := by
  rintro rfl
  obtain ⟨cs, h1, _⟩ := h.hat
  obtain ⟨D, ⟨es, clock, h2, _⟩, _⟩ := hj.lk.map
  rw [h1] at h2
  cases h2
theorem LpH.gx (h : LpH w0 w g H) (hj : LkJ w0 w x b n T) : g ≠ x := by
  rintro rfl
  obtain ⟨cs, h1, h2, _⟩ := h.hat
  have h3 := hj.lk.box
  rw [h1] at h3
  injection h3 with h3
  injection h3 with h3 h4
  rw [h3] at h2
  simp at h2
theorem LpH.turn (h : LpH w0 w g H) (hj : LkJ w0 w x b n T) (hg : w.grownBy w' (some b)) : LpH w0 w' g H :=
  ⟨h.hat.same (hg.block g h.hat.lt (fun e => h.gb hj (by injection e))), h.glo, fun p hp => (h.rd p hp).turnJ hj hg⟩
theorem LpH.set (h : LpH w0 w g H) {p : Nat} (hp : p < 6) (s : Sl) (hr : RdL w s.1 s.2.1) : LpH w0 (w.setCell ⟨g, p, none⟩ (slV s)) g (updH H p s) := by
  refine ⟨h.hat.set hp s, h.glo, fun q hq => ?_⟩
  by_cases e : q = p
  · subst e; rw [updH_self]; exact hr.off h.hat _ _
  · rw [updH_ne H s e]; exact (h.rd q hq).off h.hat _ _
theorem LkJ.setg (h : LkJ w0 w x b n T) (hh : LpH w0 w g H) (p : Nat) (v : Value) : LkJ w0 (w.setCell ⟨g, p, none⟩ v) x b n T := by
  have ho : ∀ q, q ≠ g → (w.setCell ⟨g, p, none⟩ v).heap[q]? = w.heap[q]? := fun q hq => Below.heap_setCell _ _ _ _ (by simpa using hq)
  refine ⟨⟨(ho x (hh.gx h).symm).trans h.lk.box, ?_, fun z hz => (h.lk.rd z hz).off hh.hat _ _, h.lk.few⟩, h.nt, h.bel.setCell (p := ⟨g, p, none⟩) hh.glo _, h.lo⟩
  obtain ⟨D, ⟨es, clock, h2, r⟩, hd⟩ := h.lk.map
  exact ⟨D, ⟨es, clock, (ho b (hh.gb h).symm).trans h2, r⟩, hd⟩
end
/-- The rows and the table tell the same. -/
structure Sm (T : Int → Sl) (H : Nat → Sl) : Prop where
  same : ∀ p : Nat, p < 6 → (T p).2.1 = (H p).2.1
  out : ∀ z : Int, In64 z → ¬ (0 ≤ z ∧ z < 6) → (T z).2.1 = []
  ris : ∀ p, p < 6 → risesB (H p).2.1 = true
  few : ∀ p, p < 6 → (H p).2.1.length ≤ 10
theorem Sm.upd {T : Int → Sl} {H : Nat → Sl} (h : Sm T H) {p : Nat} (hp : p < 6) {s t : Sl} (he : s.2.1 = t.2.1) (hr : risesB t.2.1 = true) (hf : t.2.1.length ≤ 10) : Sm (upd T (p : Int) s) (updH H p t) := by
  refine ⟨fun q hq => ?_, fun z hz ho => ?_, fun q hq => ?_, fun q hq => ?_⟩
  · by_cases e : q = p
    · subst e; rw [upd_self, updH_self]; exact he
    · rw [upd_ne T s (by omega), updH_ne H t e]; exact h.same q hq
  · rw [upd_ne T s (by omega)]; exact h.out z hz ho
  · by_cases e : q = p
    · subst e; rw [updH_self]; exact hr
    · rw [updH_ne H t e]; exact h.ris q hq
  · by_cases e : q = p
    · subst e; rw [updH_self]; exact hf
    · rw [updH_ne H t e]; exact h.few q hq
theorem Sm.new (H : Nat → Sl) (hH : ∀ p, p < 6 → H p = nilSl) : Sm (fun _ => nilSl) H := ⟨fun p hp => by rw [hH p hp], fun _ _ _ => rfl, fun p hp => by rw [hH p hp]; rfl, fun p hp => by rw [hH p hp]; exact Nat.zero_le _⟩
/-- What the law itself finds against it. -/
def ClashH (H : Nat → Sl) (p : Nat) (ls : List Wt) : Prop := ∃ q, q < 6 ∧ q ≠ p ∧ ∃ h ∈ (H q).2.1, ∃ x ∈ ls, apartB x h = false
theorem Sm.clash {T : Int → Sl} {H : Nat → Sl} (h : Sm T H) (p : Nat) (ls : List Wt) : Clash T (p : Int) ls ↔ ClashH H p ls := by
  constructor
  · rintro ⟨z, hz, hne, y, hy, r⟩
    by_cases hr : 0 ≤ z ∧ z < 6
    · obtain ⟨q, rfl⟩ : ∃ q : Nat, z = (q : Int) := ⟨z.toNat, by omega⟩
      rw [h.same q (by omega)] at hy
      exact ⟨q, by omega, by omega, y, hy, r⟩
    · rw [h.out z hz hr] at hy; cases hy
  · rintro ⟨q, hq, hne, y, hy, r⟩
    rw [← h.same q hq] at hy
    exact ⟨q, by unfold In64; omega, by omega, y, hy, r⟩
end Go.Proofs.Ytfdngdnnjmcigaa
