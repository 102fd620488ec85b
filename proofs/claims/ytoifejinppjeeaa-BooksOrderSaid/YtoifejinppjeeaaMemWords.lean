/- Plain laws: the words of a memory as a list: made, set, pushed, fallen. No program in sight. -/
import Derived.Test.YtoifejinppjeeaaMemPlain
namespace Go.Proofs.Ytoifejinppjeeaa
open Go.RowKit
set_option linter.unusedVariables false
set_option linter.unusedSimpArgs false
def Wl (ws : List (BitVec 64)) : Nat → BitVec 64 := fun p => ws.getD p 0#64
theorem Wl_get {ws : List (BitVec 64)} {p : Nat} (h : p < ws.length) : Wl ws p = ws[p] := by unfold Wl; rw [List.getD_eq_getElem?_getD, List.getElem?_eq_getElem h]; rfl
theorem updW_Wl {ws : List (BitVec 64)} {p : Nat} (h : p < ws.length) (v : BitVec 64) : updW (Wl ws) p v = Wl (ws.set p v) := by
  funext q
  unfold updW Wl
  rw [List.getD_eq_getElem?_getD, List.getD_eq_getElem?_getD, List.getElem?_set]
  by_cases e : p = q
  · rw [if_pos e, if_pos e, if_pos h]; rfl
  · rw [if_neg e, if_neg e]
theorem wrW_Wl {ws us : List (BitVec 64)} {t : Nat} (h : t + us.length ≤ ws.length) : wrW (Wl ws) t us = Wl (laid ws t us) := by
  funext q
  unfold wrW Wl
  rw [List.getD_eq_getElem?_getD, List.getD_eq_getElem?_getD, List.getD_eq_getElem?_getD]
  by_cases hq : q < ws.length
  · rw [laid_get ws t us h q hq]
    split <;> rfl
  · rw [if_neg (by omega), List.getElem?_eq_none (by omega), List.getElem?_eq_none (by rw [length_laid ws t us h]; omega)]
theorem laid_zero (ws us : List (BitVec 64)) (t : Nat) : laid ws t (us.take 0) = ws := by simp [laid]
theorem laid_succ (ws us : List (BitVec 64)) (t k : Nat) (hk : k < us.length) (h : t + us.length ≤ ws.length) : (laid ws t (us.take k)).set (t + k) us[k] = laid ws t (us.take (k + 1)) := by
  have e1 : (us.take k).length = k := by rw [List.length_take]; omega
  have e2 : (us.take (k + 1)).length = k + 1 := by rw [List.length_take]; omega
  apply List.ext_getElem?
  intro j
  rw [List.getElem?_set]
  by_cases hj : j < ws.length
  · rw [laid_get ws t _ (by omega) j hj, laid_get ws t _ (by omega) j hj, e1, e2, length_laid ws t _ (by omega)]
    by_cases e : t + k = j
    · rw [if_pos e, if_pos (by omega), if_pos (by omega), List.getElem?_take, if_pos (by omega), show j - t = k by omega, List.getElem?_eq_getElem hk]
    · rw [if_neg e]
      by_cases g : t ≤ j ∧ j < t + k
      · rw [if_pos g, if_pos (by omega), List.getElem?_take, List.getElem?_take, if_pos (by omega), if_pos (by omega)]
      · rw [if_neg g, if_neg (by omega)]
  · rw [if_neg (by omega), List.getElem?_eq_none (by rw [length_laid ws t _ (by omega)]; omega), List.getElem?_eq_none (by rw [length_laid ws t _ (by omega)]; omega)]
section
variable {lo hi N : Nat} {fz : Prop} {a : AM} {ws : List (BitVec 64)}
theorem Rg.words_eq (h : Rg lo hi (Wl ws) N fz a) (hl : ws.length = 8 * N) : a.words = ws := by
  have hwl : a.words.length = 8 * N := by unfold AM.words; rw [words_len, h.len]
  apply List.ext_getElem?
  intro p
  by_cases hp : p < 8 * N
  · have := words_get a (p / 8) (p % 8) (by omega) (by rw [h.len]; omega)
    rw [show 8 * (p / 8) + p % 8 = p by omega] at this
    rw [this, ← at_word, h.wd p hp, Wl_get (by omega), List.getElem?_eq_getElem (by omega)]
  · rw [List.getElem?_eq_none (by omega), List.getElem?_eq_none (by omega)]
theorem Rg.allOf_eq (h : Rg lo hi (Wl ws) N fz a) (hl : ws.length = 8 * N) (f n : Nat) (hf : f + n ≤ N) : a.allOf f (8 * n) = (ws.drop (8 * f)).take (8 * n) := by
  apply List.ext_getElem?
  intro p
  by_cases hp : p < 8 * n
  · unfold AM.allOf
    rw [List.getElem?_map, List.getElem?_range hp, List.getElem?_take, if_pos hp, List.getElem?_drop, List.getElem?_eq_getElem (by omega)]
    simp only [Option.map_some]
    rw [← Wl_get (by omega), ← h.wd _ (by omega)]
    congr 1
  · rw [List.getElem?_eq_none (by rw [allOf_len]; omega), List.getElem?_eq_none (by rw [List.length_take]; omega)]
theorem fromA_ln (xs : List (BitVec 64)) {N i : Nat} (h : i < N) : (fromA xs N).ln i = ⟨chunkL xs i, [], 0⟩ := ln_get (by
  show (fromL xs N)[i]? = _
  unfold fromL
  rw [List.getElem?_map, List.getElem?_range h]; rfl)
theorem fromA_rg (lo hi : Nat) (xs : List (BitVec 64)) (N : Nat) (hl : xs.length = 8 * N) : Rg lo hi (Wl xs) N True (fromA xs N) := by
  refine ⟨fromL_len _ _, rfl, fun i hi => ?_, fun i hi s hs => ?_, fun i hi hne => ?_, fun p hp => ?_, fun _ => rfl, Int.le_refl _⟩
  · rw [fromA_ln xs hi]; unfold chunkL; simp; omega
  · rw [fromA_ln xs hi] at hs; cases hs
  · rw [fromA_ln xs hi] at hne; exact absurd rfl hne
  · rw [at_word, fromA_ln xs (by omega), at_eq _ _ (by omega)]
    show (chunkL xs (p / 8)).getD (p % 8) 0#64 = _
    unfold chunkL Wl
    rw [List.getD_eq_getElem?_getD, List.getD_eq_getElem?_getD, List.getElem?_take, if_pos (by omega), List.getElem?_drop, show 8 * (p / 8) + p % 8 = p by omega]
theorem fromA_room (xs : List (BitVec 64)) (N : Nat) : (fromA xs N).room 0 := fun l hl => by
  have : l ∈ fromL xs N := hl
  unfold fromL at this
  rw [List.mem_map] at this
  obtain ⟨i, _, rfl⟩ := this
  exact Nat.zero_le _
theorem fromA_cnt (xs : List (BitVec 64)) (N : Nat) : (fromA xs N).cnt 0 := ⟨by simp [fromA], by simp [fromA], by simp [fromA], by simp [fromA]⟩
theorem fromA_clean (xs : List (BitVec 64)) (N : Nat) : Clean (fromA xs N) := fun i hi => by rw [fromA_ln xs (by rw [← fromL_len xs N]; exact hi)]
/-- Nothing open: a fall, and power again, leave all words. -/
theorem Clean.fell (hc : Clean a) {W : Nat → BitVec 64} (h : Rg lo hi W N fz a) (ks : List Int) : Rg 1 0 W N True (a.crash ks).on ∧ Clean (a.crash ks).on := by
  have e : (a.crash ks).on.ls = a.ls := hc.crash ks
  have hf : (a.crash ks).fuse = 0 := by rw [crash_on ks h.on]
  refine ⟨⟨by rw [e]; exact h.len, rfl, fun i hi => by rw [ln_of_ls e]; exact h.ss i hi, fun i hi => by rw [ln_of_ls e]; exact h.plc i hi, fun i hi hne => ?_, fun p hp => by rw [at_of_ls e]; exact h.wd p hp, fun _ => hf, by show 0 ≤ (a.crash ks).fuse; omega⟩, hc.of_ls e⟩
  rw [ln_of_ls e, hc i (by rw [h.len]; exact hi)] at hne
  exact absurd rfl hne
theorem push_no {f n z : Int} {us : List (BitVec 64)} (h : mayPush n z us.length = false) : a.push f n z us = (a, 1) := by unfold AM.push; rw [h]; rfl
theorem set_no {f n z : Int} {v : BitVec 64} (h : spIn n z = false) : a.set f n z v = (a, 1) := by unfold AM.set; rw [h]; rfl
theorem word_no {f n z : Int} (h : spIn n z = false) : a.word f n z = (0#64, 1) := by unfold AM.word; rw [h]; rfl
theorem Rg.word {W : Nat → BitVec 64} (h : Rg lo hi W N fz a) {f n t : Nat} (hn : f + n ≤ N) (ht : t < 8 * n) : a.word f n t = (W (8 * f + t), 0) := by
  have hin : spIn n (t : Int) = true := decide_eq_true ⟨by omega, by omega⟩
  have hh : a.has (8 * (f : Int) + (t : Int)) = true := decide_eq_true (by rw [h.len]; omega)
  unfold AM.word AM.load
  rw [if_pos hin, if_neg (by rw [h.on]; exact Bool.false_ne_true), if_neg (by rw [hh]; exact fun h => by cases h), ← h.wd _ (by omega)]
  congr 1
end
end Go.Proofs.Ytoifejinppjeeaa
