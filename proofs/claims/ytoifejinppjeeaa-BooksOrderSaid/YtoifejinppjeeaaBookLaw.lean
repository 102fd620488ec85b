/- Plain laws of a book: what Keep and Clear leave, whatever fall comes; what is read then. No program in sight. -/
import Derived.Test.YtoifejinppjeeaaBookPlain
namespace Go.Proofs.Ytoifejinppjeeaa
open Go.RowKit
set_option linter.unusedVariables false
set_option linter.unusedSimpArgs false
section
variable {N F M t : Nat} {W : Nat → BitVec 64} {fz : Prop} {a : AM} {us : List (BitVec 64)}
theorem Rg.free {lo hi lo' hi' : Nat} (hc : Clean a) (h : Rg lo hi W N fz a) : Rg lo' hi' W N fz a :=
  ⟨h.len, h.on, h.ss, h.plc, fun i hi hne => absurd (hc i (by rw [h.len]; exact hi)) hne, h.wd, h.fz, h.f0⟩
theorem Clean.pw {lo hi : Nat} (hc : Clean a) (h : Rg lo hi W N fz a) : PW (fun p v => p < 8 * N → v = W p) a := fun i hi => by
  have hiN : i < N := by rw [← h.len]; exact hi
  refine ⟨h.ss i hiN, fun j hj hp => ?_, fun s hs => ?_, fun s hs => ?_⟩
  · rw [← h.wd _ hp, at_word, show (8 * i + j) / 8 = i by omega, show (8 * i + j) % 8 = j by omega, at_eq _ _ hj, hc i hi]
    rfl
  · rw [hc i hi] at hs; cases hs
  · rw [hc i hi] at hs; cases hs
/-- A push, whatever fall comes. -/
theorem push_law (hc : Clean a) (h : Rg 1 0 W N fz a) (hF : F + M ≤ N) (ht : t + us.length ≤ 8 * M) (hu : 0 < us.length) :
    ((a.push F M (t : Int) us).2 = 14 ∧ (a.push F M (t : Int) us).1.off = true ∧ Clean (a.push F M (t : Int) us).1 ∧ (fz → False) ∧ (a.push F M (t : Int) us).1.fuse = 0 ∧ ∀ p, p < 8 * N → (a.push F M (t : Int) us).1.at_ (p : Int) = W p ∨ (8 * F + t ≤ p ∧ p < 8 * F + t + us.length ∧ (a.push F M (t : Int) us).1.at_ (p : Int) = us.getD (p - (8 * F + t)) 0#64)) ∨
    ((a.push F M (t : Int) us).2 = 0 ∧ Clean (a.push F M (t : Int) us).1 ∧ Rg 1 0 (wrW W (8 * F + t) us) N fz (a.push F M (t : Int) us).1) := by
  rcases (Rg.free (lo' := F + t / 8) (hi' := F + (t + us.length - 1) / 8) hc h).push hF ht hu with ⟨h1, h2, h3, h4, h5⟩ | h1
  · refine .inl ⟨h1, h2, h3, h4, h5, fun p hp => ?_⟩
    have hp0 : PW (fun p v => p < 8 * N → v = W p ∨ (8 * F + t ≤ p ∧ p < 8 * F + t + us.length ∧ v = us.getD (p - (8 * F + t)) 0#64)) a := (hc.pw h).mono fun p v hv hp => .inl (hv hp)
    have hp1 := hp0.push (us := us) (f := F) (n := M) (t := t) fun q hq _ => .inr ⟨by omega, by omega, by
      rw [show 8 * F + t + q - (8 * F + t) = q by omega, List.getD_eq_getElem?_getD, List.getElem?_eq_getElem hq]; rfl⟩
    exact hp1.word p (by rw [push_len, h.len]; exact hp) hp
  · exact .inr h1
theorem wrW_at {p : Nat} (h : 8 * F + t ≤ p ∧ p < 8 * F + t + us.length) : wrW W (8 * F + t) us p = us.getD (p - (8 * F + t)) 0#64 := if_pos h
theorem wrW_off {p : Nat} (h : ¬ (8 * F + t ≤ p ∧ p < 8 * F + t + us.length)) : wrW W (8 * F + t) us p = W p := if_neg h
/-- What is kept, or part of it: a mark only where all of the record is. -/
theorem keep_law {num : BitVec 64} {ws : List (Int × BitVec 64)} (hc : Clean a) (h : Rg 1 0 W N fz a) (hF : F + M ≤ N) (hl : 8 + (recX num ws).length ≤ 8 * M) (h0 : 0 < (recX num ws).length) (hm : W (8 * F) = 0#64) :
    ((a.keepB F M num ws).2 = 14 ∧ (a.keepB F M num ws).1.off = true ∧ Clean (a.keepB F M num ws).1 ∧ (fz → False) ∧ (a.keepB F M num ws).1.fuse = 0 ∧ (a.keepB F M num ws).1.ls.length = N ∧
      ((a.keepB F M num ws).1.at_ ((8 * F : Nat) : Int) = 0#64 ∨ (a.keepB F M num ws).1.at_ ((8 * F : Nat) : Int) = num ∧ ∀ q, q < (recX num ws).length → (a.keepB F M num ws).1.at_ ((8 * F + 8 + q : Nat) : Int) = (recX num ws).getD q 0#64)) ∨
    ((a.keepB F M num ws).2 = 0 ∧ Clean (a.keepB F M num ws).1 ∧ Rg 1 0 (wrW (wrW W (8 * F + 8) (recX num ws)) (8 * F + 0) [num]) N fz (a.keepB F M num ws).1) := by
  have hwd := h.word (f := F) (n := M) (t := 0) hF (by omega)
  rw [Nat.add_zero, hm] at hwd
  have hwd : a.word F M 0 = (0#64, 0) := hwd
  have e : a.keepB F M num ws = if (a.push F M 8 (recX num ws)).2 ≠ 0 then a.push F M 8 (recX num ws) else (a.push F M 8 (recX num ws)).1.push F M 0 [num] := by
    unfold AM.keepB
    rw [if_neg (by omega), hwd, if_neg (fun h => h rfl), if_neg (fun h => h rfl)]
  rw [e]
  generalize recX num ws = us at *
  have hp := push_law (t := 8) (us := us) hc h hF (by omega) h0
  have e8 : ((8 : Nat) : Int) = 8 := rfl
  rw [e8] at hp
  rcases hp with ⟨h1, h2, h3, h4, h5, h6⟩ | ⟨h1, h2, h3⟩
  · rw [if_pos (by rw [h1]; decide)]
    refine .inl ⟨h1, h2, h3, h4, h5, (push_len _ _ _ _ _).trans h.len, .inl ?_⟩
    rcases h6 (8 * F) (by omega) with g | ⟨g, _⟩
    · rw [g, hm]
    · omega
  · rw [if_neg (by rw [h1]; exact fun h => h rfl)]
    generalize (a.push F M 8 us).1 = b at *
    have hp := push_law (t := 0) (us := [num]) h2 h3 hF (by simp; omega) (by simp)
    have e0 : ((0 : Nat) : Int) = 0 := rfl
    rw [e0] at hp
    rcases hp with ⟨g1, g2, g3, g4, g5, g6⟩ | ⟨g1, g2, g3⟩
    · refine .inl ⟨g1, g2, g3, g4, g5, (push_len _ _ _ _ _).trans h3.len, ?_⟩
      have hr : ∀ q, q < us.length → (b.push F M 0 [num]).1.at_ ((8 * F + 8 + q : Nat) : Int) = us.getD q 0#64 := fun q hq => by
        rcases g6 (8 * F + 8 + q) (by omega) with k | ⟨k1, k2, _⟩
        · rw [k, wrW_at ⟨by omega, by omega⟩, show 8 * F + 8 + q - (8 * F + 8) = q by omega]
        · simp at k2; omega
      rcases g6 (8 * F) (by omega) with k | ⟨k1, k2, k3⟩
      · left
        rw [k, wrW_off (by omega), hm]
      · right
        refine ⟨?_, hr⟩
        rw [k3, Nat.add_zero, Nat.sub_self]; rfl
    · exact .inr ⟨g1, g2, g3⟩
/-! ### What is read -/
theorem allOf_at (a : AM) (F M i : Nat) (h : i < 8 * M) : (a.allOf F (8 * M))[i]? = some (a.at_ ((8 * F + i : Nat) : Int)) := by
  unfold AM.allOf
  rw [List.getElem?_map, List.getElem?_range h]
  rfl
theorem read_zero (h : a.at_ ((8 * F : Nat) : Int) = 0#64) : readR (a.allOf F (8 * M)) = none := by
  by_cases hM : 8 * M ≤ 8
  · exact readR_few (by rw [allOf_len]; exact hM)
  · refine readR_zero ?_
    rw [List.getD_eq_getElem?_getD, allOf_at a F M 0 (by omega), Nat.add_zero, h]; rfl
theorem read_rec {num : BitVec 64} {ws : List (Int × BitVec 64)} (hl : 8 + (recX num ws).length ≤ 8 * M) (h0 : 0 < (recX num ws).length) (h : a.at_ ((8 * F : Nat) : Int) = num) (hr : ∀ q, q < (recX num ws).length → a.at_ ((8 * F + 8 + q : Nat) : Int) = (recX num ws).getD q 0#64) :
    readR (a.allOf F (8 * M)) = some (num, ws) := by
  have hn : ws.length ≤ 400 := by
    have : ¬ 400 < ws.length := fun hn => by unfold recX at h0; rw [if_pos hn] at h0; simp at h0
    omega
  have e : recX num ws = recW num ws := by unfold recX; rw [if_neg (by omega)]
  rw [e] at hl h0 hr
  refine readR_rec (rest := (a.allOf F (8 * M)).drop (8 + (recW num ws).length)) ?_ ?_ (fun e => by rw [e] at h0; simp at h0) hn
  · rw [List.getD_eq_getElem?_getD, allOf_at a F M 0 (by omega), Nat.add_zero, h]; rfl
  · apply List.ext_getElem?
    intro i
    rw [List.getElem?_drop]
    by_cases hi : i < (recW num ws).length
    · rw [List.getElem?_append_left hi, allOf_at a F M (8 + i) (by omega), ← Nat.add_assoc, hr i hi, List.getD_eq_getElem?_getD, List.getElem?_eq_getElem hi]; rfl
    · rw [List.getElem?_append_right (by omega), List.getElem?_drop]
      congr 1; omega
/-- Kept, without a fall. -/
theorem keep_read {num : BitVec 64} {ws : List (Int × BitVec 64)} (h : Rg 1 0 (wrW (wrW W (8 * F + 8) (recX num ws)) (8 * F + 0) [num]) N fz a) (hF : F + M ≤ N) (hl : 8 + (recX num ws).length ≤ 8 * M) (h0 : 0 < (recX num ws).length) : readR (a.allOf F (8 * M)) = some (num, ws) := by
  refine read_rec hl h0 ?_ fun q hq => ?_
  · rw [h.wd (8 * F) (by omega), wrW_at ⟨by omega, by simp⟩, Nat.add_zero, Nat.sub_self]; rfl
  · rw [h.wd (8 * F + 8 + q) (by omega), wrW_off (by simp; omega), wrW_at ⟨by omega, by omega⟩, show 8 * F + 8 + q - (8 * F + 8) = q by omega]
end
end Go.Proofs.Ytoifejinppjeeaa
