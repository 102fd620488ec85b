/- Plain laws of a memory of any size: which words it may have, whatever fall comes; what a push leaves. No program in sight. -/
import Derived.Test.YtoifejinppjeeaaSpanPlain
namespace Go.Proofs.Ytoifejinppjeeaa
open Go.RowKit
set_option linter.unusedVariables false
set_option linter.unusedSimpArgs false
/-- Line i: all that it has, sure or open, may stand at its place. -/
structure LV (V : Nat → BitVec 64 → Prop) (i : Nat) (l : Ln) : Prop where
  len : l.ss.length = 8
  sure : ∀ j, j < 8 → V (8 * i + j) (l.ss.getD j 0#64)
  opn : ∀ s ∈ l.os, ∀ j : Nat, s.1 = (j : Int) → V (8 * i + j) s.2
  plc : ∀ s ∈ l.os, 0 ≤ s.1 ∧ s.1 < 8
section
variable {V : Nat → BitVec 64 → Prop} {i : Nat} {l : Ln}
theorem LV.doW (h : LV V i l) (ws : List St) (hs : ∀ s ∈ ws, s ∈ l.os) (j : Nat) (hj : j < 8) : V (8 * i + j) ((doW l.ss ws).getD j 0#64) := by
  have hg := doW_get ws (List.getElem?_eq_getElem (show j < l.ss.length by rw [h.len]; exact hj))
  have e : (Go.Proofs.Ytoifejinppjeeaa.doW l.ss ws).getD j 0#64 = lastV (l.ss[j]'(by rw [h.len]; exact hj)) ws j := by rw [List.getD_eq_getElem?_getD, hg]; rfl
  rw [e]
  rcases lastV_or ws (l.ss[j]'(by rw [h.len]; exact hj)) j with h1 | ⟨s, h1, h2, h3⟩
  · rw [h1]
    have := h.sure j hj
    rwa [show l.ss.getD j 0#64 = l.ss[j]'(by rw [h.len]; exact hj) by rw [List.getD_eq_getElem?_getD, List.getElem?_eq_getElem (by rw [h.len]; exact hj)]; rfl] at this
  · rw [← h3]
    exact h.opn s (hs s h1) j h2
theorem LV.at_ (h : LV V i l) (j : Nat) (hj : j < 8) : V (8 * i + j) (l.at_ (j : Int)) := by
  rw [at_eq l j hj]
  rcases lastV_or l.os (l.ss.getD j 0#64) j with h1 | ⟨s, h1, h2, h3⟩
  · rw [h1]; exact h.sure j hj
  · rw [← h3]; exact h.opn s h1 j h2
theorem LV.fence (h : LV V i l) : LV V i l.fence :=
  ⟨(doW_len _ _).trans h.len, fun j hj => h.doW _ (fun s hs => List.mem_of_mem_take hs) j hj, fun s hs j e => h.opn s (List.mem_of_mem_drop hs) j e, fun s hs => h.plc s (List.mem_of_mem_drop hs)⟩
theorem LV.fall (h : LV V i l) (z : Int) : LV V i (l.fall z) :=
  ⟨(doW_len _ _).trans h.len, fun j hj => h.doW _ (fun s hs => List.mem_of_mem_take hs) j hj, (fun s hs => by cases hs), (fun s hs => by cases hs)⟩
theorem LV.flush (h : LV V i l) : LV V i l.flush := ⟨h.len, h.sure, h.opn, h.plc⟩
theorem LV.store (h : LV V i l) {z : Int} {v : BitVec 64} (hz : 0 ≤ z ∧ z < 8) (hv : V (8 * i + z.toNat) v) : LV V i (l.store z v) := by
  refine ⟨h.len, h.sure, fun s hs j e => ?_, fun s hs => ?_⟩
  · rcases List.mem_append.1 hs with h1 | h1
    · exact h.opn s h1 j e
    · obtain rfl := List.mem_singleton.1 h1
      have : z.toNat = j := by simp only at e; omega
      rw [← this]; exact hv
  · rcases List.mem_append.1 hs with h1 | h1
    · exact h.plc s h1
    · obtain rfl := List.mem_singleton.1 h1
      exact hz
theorem LV.mono {V' : Nat → BitVec 64 → Prop} (h : LV V i l) (hv : ∀ p v, V p v → V' p v) : LV V' i l := ⟨h.len, fun j hj => hv _ _ (h.sure j hj), fun s hs j e => hv _ _ (h.opn s hs j e), h.plc⟩
end
def PW (V : Nat → BitVec 64 → Prop) (a : AM) : Prop := ∀ i, i < a.ls.length → LV V i (a.ln i)
/-- Nothing is open. -/
def Clean (a : AM) : Prop := ∀ i, i < a.ls.length → (a.ln i).os = []
section
variable {V : Nat → BitVec 64 → Prop} {a b : AM}
theorem ln_of_ls (e : b.ls = a.ls) (i : Nat) : b.ln i = a.ln i := by unfold AM.ln; rw [e]
theorem at_of_ls (e : b.ls = a.ls) (z : Int) : b.at_ z = a.at_ z := by unfold AM.at_; rw [ln_of_ls e]
theorem PW.of_ls (h : PW V a) (e : b.ls = a.ls) : PW V b := fun i hi => by rw [ln_of_ls e]; exact h i (by rw [← e]; exact hi)
theorem Clean.of_ls (h : Clean a) (e : b.ls = a.ls) : Clean b := fun i hi => by rw [ln_of_ls e]; exact h i (by rw [← e]; exact hi)
theorem PW.mono {V' : Nat → BitVec 64 → Prop} (h : PW V a) (hv : ∀ p v, V p v → V' p v) : PW V' a := fun i hi => (h i hi).mono hv
theorem at_word (a : AM) (p : Nat) : a.at_ (p : Int) = (a.ln (p / 8)).at_ ((p % 8 : Nat) : Int) := by
  unfold AM.at_
  rw [show ((p : Int) / 8).toNat = p / 8 by omega, show (p : Int) % 8 = ((p % 8 : Nat) : Int) by omega]
theorem PW.word (h : PW V a) (p : Nat) (hp : p < 8 * a.ls.length) : V p (a.at_ (p : Int)) := by
  rw [at_word]
  have := (h (p / 8) (by omega)).at_ (p % 8) (by omega)
  rwa [show 8 * (p / 8) + p % 8 = p by omega] at this
theorem crash_ln (ho : a.off = false) (ks : List Int) {i : Nat} (hi : i < a.ls.length) : ∃ z, (a.crash ks).ln i = if (a.ln i).os = [] then a.ln i else (a.ln i).fall z := by
  obtain ⟨z, hz⟩ := crashL_get a.ls ks i _ (get_ln (a := a) (i := i) hi)
  refine ⟨z, ln_get ?_⟩
  rw [crash_on ks ho]
  exact hz
theorem PW.crash (h : PW V a) (ks : List Int) : PW V (a.crash ks) := fun i hi => by
  rw [crash_len] at hi
  cases ho : a.off with
  | true =>
    have : a.crash ks = a := by unfold AM.crash; rw [if_pos ho]
    rw [this]; exact h i hi
  | false =>
    obtain ⟨z, hz⟩ := crash_ln ho ks hi
    rw [hz]
    split
    · exact h i hi
    · exact (h i hi).fall z
theorem crash_clean (ho : a.off = false) (ks : List Int) : Clean (a.crash ks) := fun i hi => by
  rw [crash_len] at hi
  obtain ⟨z, hz⟩ := crash_ln ho ks hi
  rw [hz]
  split
  · assumption
  · rfl
theorem crashL_id : ∀ (ls : List Ln) (ks : List Int), (∀ l ∈ ls, l.os = []) → crashL ks ls = ls
  | [], _, _ => rfl
  | l :: ls, ks, h => by
    simp only [crashL]
    rw [if_pos (h l (List.mem_cons_self ..)), crashL_id ls ks fun x hx => h x (List.mem_cons_of_mem _ hx)]
theorem Clean.mem (h : Clean a) : ∀ l ∈ a.ls, l.os = [] := fun l hl => by
  obtain ⟨i, hi, rfl⟩ := List.getElem_of_mem hl
  have := h i hi
  rwa [ln_eq hi] at this
theorem Clean.crash (h : Clean a) (ks : List Int) : (a.crash ks).ls = a.ls := by
  unfold AM.crash
  split
  · rfl
  · exact crashL_id _ _ h.mem
theorem Clean.room (h : Clean a) : a.room 0 := fun l hl => by rw [h.mem l hl]; exact Nat.zero_le _
/-- A call that can be done: done, or fallen. -/
theorem burn_or (ho : a.off = false) : (a.burn.2 = false ∧ a.burn.1.off = true ∧ Clean a.burn.1 ∧ 0 < a.fuse ∧ a.burn.1.fuse = 0) ∨ ∃ x, a.burn = ({ a with fuse := x }, true) ∧ (a.fuse = 0 → x = 0) ∧ (0 ≤ a.fuse → 0 ≤ x) ∧ x ≤ a.fuse := by
  unfold AM.burn
  split
  · rename_i h
    split
    · refine .inl ⟨rfl, ?_, crash_clean (a := { a with fuse := 0 }) ho _, h, ?_⟩
      · rw [crash_on (a := { a with fuse := 0 }) _ ho]
      · rw [crash_on (a := { a with fuse := 0 }) _ ho]
    · exact .inr ⟨_, rfl, by omega, by omega, by omega⟩
  · exact .inr ⟨a.fuse, rfl, id, id, Int.le_refl _⟩
theorem PW.burn (h : PW V a) : PW V a.burn.1 := by
  unfold AM.burn
  split
  · split
    · exact (h.of_ls (b := { a with fuse := 0 }) rfl).crash _
    · exact h.of_ls rfl
  · exact h
theorem PW.store1 (h : PW V a) {p : Nat} (hp : p < 8 * a.ls.length) {z : Int} (hz : z = (p : Int)) {v : BitVec 64} (hv : V p v) : PW V (a.store1 z v) := fun i hi => by
  rw [store1_len] at hi
  have hh : a.has z = true := decide_eq_true (by omega)
  rw [store1_ln hh]
  split
  · rename_i e
    have e2 : i = p / 8 := by omega
    rw [show (z / 8).toNat = p / 8 by omega, e2]
    refine (h _ (by omega)).store ⟨by omega, by omega⟩ ?_
    rwa [show 8 * (p / 8) + (z % 8).toNat = p by omega]
  · exact h i hi
theorem PW.store (h : PW V a) {p : Nat} {z : Int} (hz : z = (p : Int)) {v : BitVec 64} (hv : V p v) : PW V (a.store z v).1 := by
  unfold AM.store
  split
  · exact h
  · split
    · exact h
    · rename_i hh
      split
      · exact h.burn
      · have h0 : a.has z = true := by cases e : a.has z <;> simp_all
        have := has_yes h0
        exact h.burn.store1 (p := p) (by rw [burn_len]; omega) hz hv
theorem PW.flush (h : PW V a) (zs : List Int) : PW V (a.flush zs).1 := by
  unfold AM.flush
  split
  · exact h
  · split
    · exact h
    · split
      · exact h.burn
      · intro i hi
        have hi2 : i < a.burn.1.ls.length := by simpa [flushL_len] using hi
        have hg := get_ln (a := a.burn.1) (i := i) hi2
        rcases flushL_get zs a.burn.1.ls i _ hg with h1 | h1
        · rw [ln_get (a := { a.burn.1 with ls := flushL a.burn.1.ls zs, n2 := a.burn.1.n2 + 1 }) h1]; exact h.burn i hi2
        · rw [ln_get (a := { a.burn.1 with ls := flushL a.burn.1.ls zs, n2 := a.burn.1.n2 + 1 }) h1]; exact (h.burn i hi2).flush
theorem PW.fence (h : PW V a) : PW V a.fence.1 := by
  unfold AM.fence
  split
  · exact h
  · split
    · exact h.burn
    · intro i hi
      have hi2 : i < a.burn.1.ls.length := by simpa using hi
      have hg := get_ln (a := a.burn.1) (i := i) hi2
      have h1 : ({ a.burn.1 with ls := a.burn.1.ls.map Ln.fence, n3 := a.burn.1.n3 + 1 } : AM).ls[i]? = some (a.burn.1.ln i).fence := by simp only [List.getElem?_map, hg]; rfl
      rw [ln_get h1]
      exact (h.burn i hi2).fence
theorem PW.sets {us : List (BitVec 64)} {f n t : Nat} (hV : ∀ q (h : q < us.length), V (8 * f + t + q) us[q]) : ∀ (m q : Nat) {a : AM}, PW V a → m = us.length - q → PW V (a.sets f n (t + q : Nat) (us.drop q)).1
  | 0, q, a, h, e => by
    rw [List.drop_eq_nil_iff.2 (by omega)]
    exact h
  | m + 1, q, a, h, e => by
    have hq : q < us.length := by omega
    rw [sets_drop us q hq]
    have hs : PW V (a.set f n (t + q : Nat) us[q]).1 := by
      unfold AM.set
      split
      · exact h.store (p := 8 * f + t + q) (by omega) (hV q hq)
      · exact h
    split
    · have := PW.sets (n := n) hV m (q + 1) hs (by omega)
      rw [show ((t + (q + 1) : Nat) : Int) = ((t + q : Nat) : Int) + 1 by omega] at this
      exact this
    · exact hs
theorem PW.push {us : List (BitVec 64)} {f n t : Nat} (hV : ∀ q (h : q < us.length), V (8 * f + t + q) us[q]) (h : PW V a) : PW V (a.push f n (t : Int) us).1 := by
  have hs : PW V (a.sets f n (t : Int) us).1 := by
    have := PW.sets hV us.length 0 (n := n) h rfl
    simpa using this
  unfold AM.push
  split
  · split
    · split
      · exact (hs.flush _).fence
      · exact hs.flush _
    · exact hs
  · exact h
end
/-! ### What a push leaves -/
/-- In power; open is something only in the lines from lo to hi; the words are these. -/
structure Rg (lo hi : Nat) (W : Nat → BitVec 64) (N : Nat) (fz : Prop) (a : AM) : Prop where
  len : a.ls.length = N
  on : a.off = false
  ss : ∀ i, i < N → (a.ln i).ss.length = 8
  plc : ∀ i, i < N → ∀ s ∈ (a.ln i).os, 0 ≤ s.1 ∧ s.1 < 8
  opn : ∀ i, i < N → (a.ln i).os ≠ [] → lo ≤ i ∧ i ≤ hi
  wd : ∀ p, p < 8 * N → a.at_ (p : Int) = W p
  fz : fz → a.fuse = 0
  f0 : 0 ≤ a.fuse
def updW (W : Nat → BitVec 64) (p : Nat) (v : BitVec 64) : Nat → BitVec 64 := fun q => if p = q then v else W q
def wrW (W : Nat → BitVec 64) (t : Nat) (us : List (BitVec 64)) : Nat → BitVec 64 := fun p => if t ≤ p ∧ p < t + us.length then us.getD (p - t) 0#64 else W p
section
variable {lo hi N : Nat} {W : Nat → BitVec 64} {fz : Prop} {a : AM}
theorem Rg.words (h : Rg lo hi W N fz a) {W' : Nat → BitVec 64} (hw : ∀ p, p < 8 * N → W p = W' p) : Rg lo hi W' N fz a := ⟨h.len, h.on, h.ss, h.plc, h.opn, fun p hp => (h.wd p hp).trans (hw p hp), h.fz, h.f0⟩
theorem Rg.fused (h : Rg lo hi W N fz a) {x : Int} (hx : a.fuse = 0 → x = 0) (h0 : 0 ≤ x) : Rg lo hi W N fz { a with fuse := x } := ⟨h.len, h.on, h.ss, h.plc, h.opn, h.wd, fun k => hx (h.fz k), h0⟩
theorem Rg.store1 (h : Rg lo hi W N fz a) {p : Nat} (hp : p < 8 * N) (hl : lo ≤ p / 8 ∧ p / 8 ≤ hi) {z : Int} (hz : z = (p : Int)) (v : BitVec 64) : Rg lo hi (updW W p v) N fz (a.store1 z v) := by
  have hh : a.has z = true := decide_eq_true (by rw [h.len]; omega)
  refine ⟨(store1_len _ _ _).trans h.len, h.on, fun i hi => ?_, fun i hi => ?_, fun i hi hne => ?_, fun q hq => ?_, h.fz, h.f0⟩
  · rw [store1_ln hh]
    split
    · exact h.ss _ (by omega)
    · exact h.ss i hi
  · rw [store1_ln hh]
    split
    · intro s hs
      rcases List.mem_append.1 hs with h1 | h1
      · exact h.plc _ (by omega) s h1
      · obtain rfl := List.mem_singleton.1 h1
        exact ⟨by show 0 ≤ z % 8; omega, by show z % 8 < 8; omega⟩
    · exact h.plc i hi
  · rw [store1_ln hh] at hne
    split at hne
    · omega
    · exact h.opn i hi hne
  · rw [store1_at hh (by omega)]
    unfold updW
    by_cases e : p = q
    · rw [if_pos e, if_pos (by omega)]
    · rw [if_neg e, if_neg (by omega), h.wd q hq]
/-- A word set: it stands there, or there was a fall. -/
theorem Rg.set (h : Rg lo hi W N fz a) {f n t : Nat} (hn : f + n ≤ N) (ht : t < 8 * n) (hl : lo ≤ f + t / 8 ∧ f + t / 8 ≤ hi) (v : BitVec 64) :
    ((a.set f n t v).2 = 0 ∧ Rg lo hi (updW W (8 * f + t) v) N fz (a.set f n t v).1) ∨ ((a.set f n t v).2 = 14 ∧ (a.set f n t v).1.off = true ∧ Clean (a.set f n t v).1 ∧ 0 < a.fuse ∧ (a.set f n t v).1.fuse = 0) := by
  have hin : spIn n (t : Int) = true := decide_eq_true ⟨by omega, by omega⟩
  have hh : a.has (8 * (f : Int) + (t : Int)) = true := decide_eq_true (by rw [h.len]; omega)
  have hst : a.set f n t v = if a.burn.2 = false then (a.burn.1, 14) else (a.burn.1.store1 (8 * (f : Int) + (t : Int)) v, 0) := by
    unfold AM.set AM.store
    rw [if_pos hin, if_neg (by rw [h.on]; exact Bool.false_ne_true), if_neg (by rw [hh]; exact fun h => by cases h)]
  rw [hst]
  rcases burn_or h.on with ⟨e1, e2, e3, e4, e5⟩ | ⟨x, e, hx, hx0, _⟩
  · rw [if_pos e1]
    exact .inr ⟨rfl, e2, e3, e4, e5⟩
  · rw [e, if_neg (fun h => by cases h)]
    exact .inl ⟨rfl, (h.fused hx (hx0 h.f0)).store1 (by omega) (by omega) (by omega) v⟩
theorem wrW_zero (W : Nat → BitVec 64) (t : Nat) (us : List (BitVec 64)) : wrW W t (us.take 0) = W := by
  funext p
  unfold wrW
  rw [if_neg (by simp)]
theorem wrW_succ (W : Nat → BitVec 64) (t : Nat) (us : List (BitVec 64)) (k : Nat) (hk : k < us.length) : updW (wrW W t (us.take k)) (t + k) us[k] = wrW W t (us.take (k + 1)) := by
  funext p
  unfold updW wrW
  simp only [List.length_take]
  by_cases e : t + k = p
  · rw [if_pos e, if_pos (by omega), List.getD_eq_getElem?_getD, List.getElem?_take, if_pos (by omega), show p - t = k by omega, List.getElem?_eq_getElem hk]; rfl
  · rw [if_neg e]
    by_cases g : t ≤ p ∧ p < t + min k us.length
    · rw [if_pos g, if_pos (by omega), List.getD_eq_getElem?_getD, List.getD_eq_getElem?_getD, List.getElem?_take, if_pos (by omega), List.getElem?_take, if_pos (by omega)]
    · rw [if_neg g, if_neg (by omega)]
theorem Rg.sets {us : List (BitVec 64)} {f n t : Nat} (hn : f + n ≤ N) (ht : t + us.length ≤ 8 * n) (h1 : lo ≤ f + t / 8) (h2 : f + (t + us.length - 1) / 8 ≤ hi) : ∀ (m k : Nat) {a : AM}, Rg lo hi (wrW W (8 * f + t) (us.take k)) N fz a → m = us.length - k → k ≤ us.length →
    ((a.sets f n (t + k : Nat) (us.drop k)).2 = 0 ∧ Rg lo hi (wrW W (8 * f + t) us) N fz (a.sets f n (t + k : Nat) (us.drop k)).1) ∨ ((a.sets f n (t + k : Nat) (us.drop k)).2 = 14 ∧ (a.sets f n (t + k : Nat) (us.drop k)).1.off = true ∧ Clean (a.sets f n (t + k : Nat) (us.drop k)).1 ∧ (fz → False) ∧ (a.sets f n (t + k : Nat) (us.drop k)).1.fuse = 0)
  | 0, k, a, h, e, hk => by
    obtain rfl : k = us.length := by omega
    rw [List.drop_length]
    rw [List.take_length] at h
    exact .inl ⟨rfl, h⟩
  | m + 1, k, a, h, e, hk => by
    have hq : k < us.length := by omega
    rw [sets_drop us k hq]
    rcases h.set (f := f) (n := n) (t := t + k) hn (by omega) ⟨by omega, by omega⟩ us[k] with ⟨g1, g2⟩ | ⟨g1, g2, g3, g4, g5⟩
    · rw [if_pos g1]
      rw [show 8 * f + (t + k) = 8 * f + t + k by omega, wrW_succ _ _ _ _ hq] at g2
      have := Rg.sets hn ht h1 h2 m (k + 1) g2 (by omega) (by omega)
      rw [show ((t + (k + 1) : Nat) : Int) = ((t + k : Nat) : Int) + 1 by omega] at this
      exact this
    · rw [if_neg (by omega)]
      refine .inr ⟨g1, g2, g3, fun hz => ?_, g5⟩
      have := h.fz hz
      omega
theorem mayPush_yes {n t m : Nat} (ht : t + m ≤ 8 * n) (hm : 0 < m) : mayPush n (t : Int) m = true := by
  unfold mayPush
  rw [Bool.and_eq_true, Bool.and_eq_true, decide_eq_true_eq, decide_eq_true_eq]
  exact ⟨⟨decide_eq_true ⟨by omega, by omega⟩, hm⟩, by omega⟩
/-- What a push answers, and what there is then: all of it, and nothing open; or a fall. -/
theorem Rg.push {us : List (BitVec 64)} {f n t : Nat} (h : Rg (f + t / 8) (f + (t + us.length - 1) / 8) W N fz a) (hn : f + n ≤ N) (ht : t + us.length ≤ 8 * n) (hu : 0 < us.length) :
    ((a.push f n (t : Int) us).2 = 14 ∧ (a.push f n (t : Int) us).1.off = true ∧ Clean (a.push f n (t : Int) us).1 ∧ (fz → False) ∧ (a.push f n (t : Int) us).1.fuse = 0) ∨
    ((a.push f n (t : Int) us).2 = 0 ∧ Clean (a.push f n (t : Int) us).1 ∧ Rg 1 0 (wrW W (8 * f + t) us) N fz (a.push f n (t : Int) us).1) := by
  have hs := Rg.sets hn ht (Nat.le_refl _) (Nat.le_refl _) us.length 0 (W := W) (fz := fz) (a := a) (by rw [wrW_zero]; exact h) rfl (Nat.zero_le _)
  simp only [Nat.add_zero, List.drop_zero] at hs
  unfold AM.push
  rw [if_pos (mayPush_yes ht hu)]
  rcases hs with ⟨h1, h2⟩ | ⟨h1, h2, h3, h4, h5⟩
  · rw [if_pos h1]
    generalize (a.sets f n (t : Int) us).1 = b at *
    have hL : (lns f (t : Int) us.length).any b.none = false := by
      rw [List.any_eq_false]
      intro z hz
      unfold lns at hz
      rw [List.mem_map] at hz
      obtain ⟨i, hi, rfl⟩ := hz
      have := List.mem_range.1 hi
      unfold AM.none
      rw [h2.len]
      simp only [decide_eq_true_eq]
      omega
    have hfl : b.flush (lns f (t : Int) us.length) = if b.burn.2 = false then (b.burn.1, 14) else ({ b.burn.1 with ls := flushL b.burn.1.ls (lns f (t : Int) us.length), n2 := b.burn.1.n2 + 1 }, 0) := by
      unfold AM.flush
      rw [if_neg (by rw [h2.on]; exact Bool.false_ne_true), if_neg (by rw [hL]; exact fun h => by cases h)]
    rcases burn_or h2.on with ⟨e1, e2, e3, e4, e5⟩ | ⟨x, e, hx, hx0, _⟩
    · rw [hfl, if_pos e1, if_neg (show ¬ (14 : Int) = 0 by decide)]
      exact .inl ⟨rfl, e2, e3, fun hz => by have := h2.fz hz; omega, e5⟩
    have hfl2 : b.flush (lns f (t : Int) us.length) = ({ b with fuse := x, ls := flushL b.ls (lns f (t : Int) us.length), n2 := b.n2 + 1 }, 0) := by
      rw [hfl, e]
      exact if_neg (fun h => by cases h)
    rw [hfl2, if_pos rfl]
    have hlnf : ∀ i, i < N → ∃ l, ({ b with fuse := x, ls := flushL b.ls (lns f (t : Int) us.length), n2 := b.n2 + 1 } : AM).ls[i]? = some l ∧ (l.os = [] ∨ l.fl = l.os.length) ∧ l.ss = (b.ln i).ss ∧ l.os = (b.ln i).os := fun i hi => by
      have hg := get_ln (a := b) (i := i) (by rw [h2.len]; exact hi)
      by_cases hos : (b.ln i).os = []
      · rcases flushL_get (lns f (t : Int) us.length) b.ls i _ hg with h3 | h3
        · exact ⟨_, h3, .inl hos, rfl, rfl⟩
        · exact ⟨_, h3, .inl hos, rfl, rfl⟩
      · obtain ⟨g1, g2⟩ := h2.opn i hi hos
        refine ⟨_, flushL_in (lns f (t : Int) us.length) b.ls i _ hg ⟨(f : Int) + ((t : Int) / 8 + ((i - f - t / 8 : Nat) : Int)), ?_, by omega⟩, .inr rfl, rfl, rfl⟩
        unfold lns
        rw [List.mem_map]
        exact ⟨i - f - t / 8, List.mem_range.2 (by omega), rfl⟩
    have hlenc : ({ b with fuse := x, ls := flushL b.ls (lns f (t : Int) us.length), n2 := b.n2 + 1 } : AM).ls.length = N := (flushL_len _ _).trans h2.len
    have hss : ∀ i, i < N → (({ b with fuse := x, ls := flushL b.ls (lns f (t : Int) us.length), n2 := b.n2 + 1 } : AM).ln i).ss.length = 8 := fun i hi => by
      obtain ⟨l, h3, _, h5, _⟩ := hlnf i hi
      rw [ln_get h3, h5]; exact h2.ss i hi
    have hatf : ∀ i, i < N → ∀ j, j < 8 → (({ b with fuse := x, ls := flushL b.ls (lns f (t : Int) us.length), n2 := b.n2 + 1 } : AM).ln i).at_ ((j : Nat) : Int) = (b.ln i).at_ ((j : Nat) : Int) := fun i hi j hj => by
      obtain ⟨l, h3, _, h5, h6⟩ := hlnf i hi
      rw [ln_get h3, at_eq _ _ hj, at_eq _ _ hj, h5, h6]
    have hof : ∀ i, i < N → (({ b with fuse := x, ls := flushL b.ls (lns f (t : Int) us.length), n2 := b.n2 + 1 } : AM).ln i).os = [] ∨ (({ b with fuse := x, ls := flushL b.ls (lns f (t : Int) us.length), n2 := b.n2 + 1 } : AM).ln i).fl = (({ b with fuse := x, ls := flushL b.ls (lns f (t : Int) us.length), n2 := b.n2 + 1 } : AM).ln i).os.length := fun i hi => by
      obtain ⟨l, h3, h4, _⟩ := hlnf i hi
      rw [ln_get h3]; exact h4
    have hfu : 0 ≤ ({ b with fuse := x, ls := flushL b.ls (lns f (t : Int) us.length), n2 := b.n2 + 1 } : AM).fuse := hx0 h2.f0
    have hfz : fz → ({ b with fuse := x, ls := flushL b.ls (lns f (t : Int) us.length), n2 := b.n2 + 1 } : AM).fuse = 0 := fun hz => hx (h2.fz hz)
    have hwd := h2.wd
    have hon : ({ b with fuse := x, ls := flushL b.ls (lns f (t : Int) us.length), n2 := b.n2 + 1 } : AM).off = false := h2.on
    show _ ∨ _
    simp only
    generalize ({ b with fuse := x, ls := flushL b.ls (lns f (t : Int) us.length), n2 := b.n2 + 1 } : AM) = c at *
    rcases burn_or hon with ⟨e1, e2, e3, e4, e5⟩ | ⟨y, ey, hy, hy0, _⟩
    · have : c.fence = (c.burn.1, 14) := by unfold AM.fence; rw [if_neg (by rw [hon]; exact Bool.false_ne_true), if_pos e1]
      rw [this]
      exact .inl ⟨rfl, e2, e3, fun hz => by have := hfz hz; omega, e5⟩
    · have : c.fence = ({ c with fuse := y, ls := c.ls.map Ln.fence, n3 := c.n3 + 1 }, 0) := by
        unfold AM.fence
        rw [if_neg (by rw [hon]; exact Bool.false_ne_true), ey, if_neg (fun h => by cases h)]
      rw [this]
      have hln : ∀ i, i < N → (({ c with fuse := y, ls := c.ls.map Ln.fence, n3 := c.n3 + 1 } : AM).ln i) = (c.ln i).fence := fun i hi => by
        refine ln_get ?_
        have hg := get_ln (a := c) (i := i) (by rw [hlenc]; exact hi)
        show (c.ls.map Ln.fence)[i]? = _
        rw [List.getElem?_map, hg]; rfl
      have hcl : Clean ({ c with fuse := y, ls := c.ls.map Ln.fence, n3 := c.n3 + 1 } : AM) := fun i hi => by
        have hi2 : i < N := by rw [← hlenc]; simpa using hi
        rw [hln i hi2]
        exact (fence_at (hss i hi2) (hof i hi2) 0 (by omega)).2
      refine .inr ⟨rfl, hcl, ⟨by simpa using hlenc, hon, fun i hi => ?_, fun i hi s hs => ?_, fun i hi hne => ?_, fun p hp => ?_, fun hz => hy (hfz hz), hy0 hfu⟩⟩
      · rw [hln i hi]; exact (doW_len _ _).trans (hss i hi)
      · rw [hcl i (by simpa [hlenc] using hi)] at hs; cases hs
      · exact absurd (hcl i (by simpa [hlenc] using hi)) hne
      · have hi : p / 8 < N := by omega
        rw [at_word, hln _ hi, (fence_at (hss _ hi) (hof _ hi) (p % 8) (by omega)).1, hatf _ hi _ (by omega), ← hwd p hp, at_word]
  · rw [if_neg (by omega)]
    exact .inl ⟨h1, h2, h3, h4, h5⟩
end
end Go.Proofs.Ytoifejinppjeeaa
