/- The plain law of SpanSays: what a span's calls leave of a memory's words. No program in sight. -/
import Derived.Test.YtoifejinppjeeaaMemWords
import Derived.Test.YtoifejinppjeeaaPushRoom
namespace Go.Proofs.Ytoifejinppjeeaa
open Go.RowKit
set_option linter.unusedVariables false
set_option linter.unusedSimpArgs false
structure SayS (N F M : Nat) (z : Int) (v : BitVec 64) (xs us : List (BitVec 64)) (a1 a2 : AM) (ys zs : List (BitVec 64)) (g0 k0 : Int) (wv : BitVec 64) : Prop where
  set : (fromA xs N).set F M z v = (a1, g0)
  word : a1.word F M z = (wv, g0)
  push : a1.push F M z us = (a2, k0)
  r1 : a1.room 1
  c1 : a1.cnt 1
  l1 : a1.ls.length = N
  w1 : a1.words = ys
  y1 : ys.length = 8 * N
  r2 : a2.room (1 + us.length)
  o2 : a2.off = false
  l2 : a2.ls.length = N
  w2 : a2.words = zs
  y2 : zs.length = 8 * N
  al : a2.allOf F (8 * M) = (zs.drop (8 * F)).take (8 * M)
  l3 : (a2.crash []).on.ls.length = N
  w3 : k0 = 0 → (a2.crash []).on.words = zs
section
variable {N F M : Nat} {z : Int} {v : BitVec 64} {xs us : List (BitVec 64)}
theorem on_len (a : AM) : a.on.ls.length = a.ls.length := rfl
theorem sayS_out (hl : xs.length = 8 * N) (hF : F + M ≤ N) (hz : z < 0 ∨ 8 * (M : Int) ≤ z) : ∃ a1 a2, SayS N F M z v xs us a1 a2 xs xs 1 1 0#64 := by
  have hno : spIn (M : Int) z = false := decide_eq_false (by omega)
  have hrg := fromA_rg 1 0 xs N hl
  have hmp : mayPush (M : Int) z us.length = false := by unfold mayPush; rw [hno]; rfl
  refine ⟨_, _, set_no hno, word_no hno, push_no hmp, room_mono (fromA_room xs N) (by omega), (fromA_cnt xs N).mono (by omega), fromL_len _ _, hrg.words_eq hl, hl, room_mono (fromA_room xs N) (by omega), rfl, fromL_len _ _, hrg.words_eq hl, hl, hrg.allOf_eq hl F M hF, ?_, fun h => by omega⟩
  rw [on_len, crash_len]; exact fromL_len _ _
theorem set_in (hl : xs.length = 8 * N) (hF : F + M ≤ N) {t : Nat} (ht : t < 8 * M) (lo hi : Nat) (hlh : lo ≤ F + t / 8 ∧ F + t / 8 ≤ hi) : ∃ a1, (fromA xs N).set F M t v = (a1, 0) ∧ Rg lo hi (Wl (xs.set (8 * F + t) v)) N True a1 ∧ a1.room 1 ∧ a1.cnt 1 := by
  have hrg := fromA_rg lo hi xs N hl
  rcases hrg.set hF ht hlh v with ⟨e, h⟩ | ⟨_, _, _, h, _⟩
  · rw [updW_Wl (by omega)] at h
    exact ⟨_, Prod.ext rfl e, h, set_room (fromA_room xs N) _ _ _ _, (fromA_cnt xs N).set _ _ _ _⟩
  · have : (fromA xs N).fuse = 0 := rfl
    omega
theorem sayS_in (hl : xs.length = 8 * N) (hF : F + M ≤ N) {t : Nat} (ht : t < 8 * M) (hu : us.length = 0 ∨ 8 * M < t + us.length) : ∃ a1 a2, SayS N F M t v xs us a1 a2 (xs.set (8 * F + t) v) (xs.set (8 * F + t) v) 0 1 v := by
  obtain ⟨a1, h1, h2, h3, h4⟩ := set_in (v := v) hl hF ht (F + t / 8) (F + t / 8) ⟨Nat.le_refl _, Nat.le_refl _⟩
  have hmp : mayPush (M : Int) t us.length = false := by
    unfold mayPush
    rcases hu with hu | hu
    · rw [hu]; simp
    · rw [decide_eq_false (p := ((us.length : Int) ≤ 8 * (M : Int) - (t : Int))) (by omega)]; simp
  have hyl : (xs.set (8 * F + t) v).length = 8 * N := by rw [List.length_set]; exact hl
  have hwv : Wl (xs.set (8 * F + t) v) (8 * F + t) = v := by rw [Wl_get (by omega)]; simp
  refine ⟨a1, a1, h1, ?_, push_no hmp, h3, h4, h2.len, h2.words_eq hyl, hyl, room_mono h3 (by omega), h2.on, h2.len, h2.words_eq hyl, hyl, h2.allOf_eq hyl F M hF, ?_, fun h => by omega⟩
  · rw [h2.word hF ht, hwv]
  · rw [on_len, crash_len]; exact h2.len
theorem sayS_fits (hl : xs.length = 8 * N) (hF : F + M ≤ N) {t : Nat} (hu : 0 < us.length) (ht : t + us.length ≤ 8 * M) : ∃ a1 a2, SayS N F M t v xs us a1 a2 (xs.set (8 * F + t) v) (laid (xs.set (8 * F + t) v) (8 * F + t) us) 0 0 v := by
  obtain ⟨a1, h1, h2, h3, h4⟩ := set_in (t := t) (v := v) hl hF (by omega) (F + t / 8) (F + (t + us.length - 1) / 8) ⟨Nat.le_refl _, by omega⟩
  have hyl : (xs.set (8 * F + t) v).length = 8 * N := by rw [List.length_set]; exact hl
  have hwv : Wl (xs.set (8 * F + t) v) (8 * F + t) = v := by rw [Wl_get (by omega)]; simp
  rcases h2.push hF ht hu with ⟨_, _, _, h, _⟩ | ⟨g1, g2, g3⟩
  · exact absurd trivial h
  have hr := push_room h3 (F : Int) (M : Int) (t : Int) us
  generalize hp : a1.push F M t us = pr at *
  obtain ⟨a2, k0⟩ := pr
  simp only at g1 g2 g3 hr
  subst g1
  rw [wrW_Wl (by omega)] at g3
  have hzl : (laid (xs.set (8 * F + t) v) (8 * F + t) us).length = 8 * N := by rw [length_laid _ _ _ (by omega)]; exact hyl
  obtain ⟨f1, f2⟩ := g2.fell g3 []
  refine ⟨a1, a2, h1, ?_, hp, h3, h4, h2.len, h2.words_eq hyl, hyl, hr, g3.on, g3.len, g3.words_eq hzl, hzl, g3.allOf_eq hzl F M hF, f1.len, fun _ => f1.words_eq hzl⟩
  rw [h2.word hF (by omega), hwv]
theorem laid_atQ {ys : List (BitVec 64)} {p k : Nat} (h : p + us.length ≤ ys.length) (hk : k < us.length) : (laid ys p us)[p + k]? = us[k]? := by
  rw [laid_get ys p us h (p + k) (by omega), if_pos (by omega), show p + k - p = k by omega]
theorem laid_at {ys : List (BitVec 64)} {p k : Nat} (h : p + us.length ≤ ys.length) (hk : k < us.length) : (laid ys p us)[p + k]'(by rw [length_laid ys p us h]; omega) = us[k] := by
  have h1 := laid_get ys p us h (p + k) (by omega)
  rw [if_pos (by omega), show p + k - p = k by omega, List.getElem?_eq_getElem (by rw [length_laid ys p us h]; omega), List.getElem?_eq_getElem hk] at h1
  exact Option.some.inj h1
end
end Go.Proofs.Ytoifejinppjeeaa
