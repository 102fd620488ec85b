/- Plain laws of words pushed: what lasts, whatever fall comes. No program in sight. -/
import Derived.Test.YtoifejinppjeeaaSpanPush
namespace Go.Proofs.Ytoifejinppjeeaa
open Go.RowKit
set_option linter.unusedVariables false
set_option linter.unusedSimpArgs false
/-- At place p: the word that is pushed there. -/
def Put (us : List (BitVec 64)) (t p : Nat) (u : BitVec 64) : Prop := ∃ q, ∃ h : q < us.length, p = 8 + t + q ∧ u = us[q]
structure LG (us : List (BitVec 64)) (t i : Nat) (l : Ln) : Prop where
  len : l.ss.length = 8
  sure : ∀ j, j < 8 → l.ss.getD j 0#64 = 0#64 ∨ Put us t (8 * i + j) (l.ss.getD j 0#64)
  opn : ∀ s ∈ l.os, ∀ j : Nat, s.1 = (j : Int) → Put us t (8 * i + j) s.2
  plc : ∀ s ∈ l.os, 0 ≤ s.1 ∧ s.1 < 8
section
variable {us : List (BitVec 64)} {t i : Nat} {l : Ln}
theorem LG.doW (h : LG us t i l) (ws : List St) (hs : ∀ s ∈ ws, s ∈ l.os) (j : Nat) (hj : j < 8) : (doW l.ss ws).getD j 0#64 = 0#64 ∨ Put us t (8 * i + j) ((doW l.ss ws).getD j 0#64) := by
  have hg := doW_get ws (List.getElem?_eq_getElem (show j < l.ss.length by rw [h.len]; exact hj))
  have e : (Go.Proofs.Ytoifejinppjeeaa.doW l.ss ws).getD j 0#64 = lastV (l.ss[j]'(by rw [h.len]; exact hj)) ws j := by rw [List.getD_eq_getElem?_getD, hg]; rfl
  rw [e]
  rcases lastV_or ws (l.ss[j]'(by rw [h.len]; exact hj)) j with h1 | ⟨s, h1, h2, h3⟩
  · rw [h1]
    have := h.sure j hj
    rwa [show l.ss.getD j 0#64 = l.ss[j]'(by rw [h.len]; exact hj) by rw [List.getD_eq_getElem?_getD, List.getElem?_eq_getElem (by rw [h.len]; exact hj)]; rfl] at this
  · rw [← h3]
    exact .inr (h.opn s (hs s h1) j h2)
theorem LG.at_ (h : LG us t i l) (j : Nat) (hj : j < 8) : l.at_ (j : Int) = 0#64 ∨ Put us t (8 * i + j) (l.at_ (j : Int)) := by
  rw [at_eq l j hj]
  rcases lastV_or l.os (l.ss.getD j 0#64) j with h1 | ⟨s, h1, h2, h3⟩
  · rw [h1]; exact h.sure j hj
  · rw [← h3]; exact .inr (h.opn s h1 j h2)
theorem LG.fence (h : LG us t i l) : LG us t i l.fence :=
  ⟨(doW_len _ _).trans h.len, fun j hj => h.doW _ (fun s hs => List.mem_of_mem_take hs) j hj, fun s hs j e => h.opn s (List.mem_of_mem_drop hs) j e, fun s hs => h.plc s (List.mem_of_mem_drop hs)⟩
theorem LG.fall (h : LG us t i l) (z : Int) : LG us t i (l.fall z) :=
  ⟨(doW_len _ _).trans h.len, fun j hj => h.doW _ (fun s hs => List.mem_of_mem_take hs) j hj, (fun s hs => by cases hs), (fun s hs => by cases hs)⟩
theorem LG.flush (h : LG us t i l) : LG us t i l.flush := ⟨h.len, h.sure, h.opn, h.plc⟩
end
/-- Six lines whose words are nought or pushed there. -/
structure P1 (us : List (BitVec 64)) (t : Nat) (a : AM) : Prop where
  len : a.ls.length = 6
  lns : ∀ i, i < 6 → LG us t i (a.ln i)
section
variable {us : List (BitVec 64)} {t : Nat} {a : AM}
theorem P1.of_ls {b : AM} (h : P1 us t a) (e : b.ls = a.ls) : P1 us t b := ⟨by rw [e]; exact h.len, fun i hi => by
  have : b.ln i = a.ln i := by unfold AM.ln; rw [e]
  rw [this]; exact h.lns i hi⟩
theorem P1.crash (h : P1 us t a) (ks : List Int) : P1 us t (a.crash ks) := by
  refine ⟨(crash_len a ks).trans h.len, fun i hi => ?_⟩
  cases ho : a.off with
  | true =>
    have : a.crash ks = a := by unfold AM.crash; rw [if_pos ho]
    rw [this]; exact h.lns i hi
  | false =>
    obtain ⟨z, hz⟩ := crashL_get a.ls ks i _ (get_ln (a := a) (i := i) (by rw [h.len]; exact hi))
    have : (a.crash ks).ln i = if (a.ln i).os = [] then a.ln i else (a.ln i).fall z := by
      refine ln_get ?_
      rw [crash_on ks ho]
      exact hz
    rw [this]
    split
    · exact h.lns i hi
    · exact (h.lns i hi).fall z
theorem P1.burn (h : P1 us t a) : P1 us t a.burn.1 := by
  unfold AM.burn
  split
  · split
    · exact (P1.of_ls (b := { a with fuse := 0 }) h rfl).crash _
    · exact P1.of_ls (b := { a with fuse := a.fuse - 1 }) h rfl
  · exact h
theorem P1.store1 (h : P1 us t a) {q : Nat} (hq : q < us.length) {z : Int} (hz : z = 8 + t + q) (hh : a.has z = true) : P1 us t (a.store1 z us[q]) := by
  have h0 := has_yes hh
  refine ⟨(store1_len _ _ _).trans h.len, fun i hi => ?_⟩
  rw [store1_ln hh]
  split
  · rename_i e
    rw [e]
    have hl := h.lns i hi
    refine ⟨hl.len, hl.sure, fun s hs j ej => ?_, fun s hs => ?_⟩
    · rcases List.mem_append.1 hs with h1 | h1
      · exact hl.opn s h1 j ej
      · rw [List.mem_singleton.1 h1] at ej ⊢
        simp only at ej
        exact ⟨q, hq, by omega, rfl⟩
    · rcases List.mem_append.1 hs with h1 | h1
      · exact hl.plc s h1
      · rw [List.mem_singleton.1 h1]; simp only; omega
  · exact h.lns i hi
theorem has_burn (a : AM) (z : Int) : a.burn.1.has z = a.has z := by unfold AM.has; rw [burn_len]
theorem P1.store (h : P1 us t a) {q : Nat} (hq : q < us.length) {z : Int} (hz : z = 8 + t + q) : P1 us t (a.store z us[q]).1 := by
  unfold AM.store
  split
  · exact h
  · split
    · exact h
    · rename_i hh
      split
      · exact h.burn
      · exact h.burn.store1 hq hz (by rw [has_burn]; simpa using hh)
theorem P1.flush (h : P1 us t a) (zs : List Int) : P1 us t (a.flush zs).1 := by
  unfold AM.flush
  split
  · exact h
  · split
    · exact h
    · split
      · exact h.burn
      · have hb := h.burn
        refine ⟨(flushL_len _ _).trans hb.len, fun i hi => ?_⟩
        have hg := get_ln (a := a.burn.1) (i := i) (by rw [hb.len]; exact hi)
        rcases flushL_get zs a.burn.1.ls i _ hg with h1 | h1
        · rw [ln_get (a := { a.burn.1 with ls := flushL a.burn.1.ls zs, n2 := a.burn.1.n2 + 1 }) h1]; exact hb.lns i hi
        · rw [ln_get (a := { a.burn.1 with ls := flushL a.burn.1.ls zs, n2 := a.burn.1.n2 + 1 }) h1]; exact (hb.lns i hi).flush
theorem P1.fence (h : P1 us t a) : P1 us t a.fence.1 := by
  unfold AM.fence
  split
  · exact h
  · split
    · exact h.burn
    · have hb := h.burn
      refine ⟨(List.length_map _).trans hb.len, fun i hi => ?_⟩
      have hg := get_ln (a := a.burn.1) (i := i) (by rw [hb.len]; exact hi)
      have h1 : ({ a.burn.1 with ls := a.burn.1.ls.map Ln.fence, n3 := a.burn.1.n3 + 1 } : AM).ls[i]? = some (a.burn.1.ln i).fence := by simp only [List.getElem?_map, hg]; rfl
      rw [ln_get h1]
      exact (hb.lns i hi).fence
theorem P1.sets : ∀ (m : Nat) (q : Nat) {a : AM}, P1 us t a → m = us.length - q → P1 us t (a.sets 1 4 (t + q : Nat) (us.drop q)).1
  | 0, q, a, h, e => by
    rw [List.drop_eq_nil_iff.2 (by omega)]
    exact h
  | m + 1, q, a, h, e => by
    have hq : q < us.length := by omega
    rw [sets_drop us q hq]
    have hs : P1 us t (a.set 1 4 (t + q : Nat) us[q]).1 := by
      unfold AM.set
      split
      · exact h.store hq (by omega)
      · exact h
    split
    · have := P1.sets m (q + 1) hs (by omega)
      rw [show ((t + (q + 1) : Nat) : Int) = ((t + q : Nat) : Int) + 1 by omega] at this
      exact this
    · exact hs
theorem P1.push (h : P1 us t a) : P1 us t (a.push 1 4 (t : Int) us).1 := by
  have hs : P1 us t (a.sets 1 4 (t : Int) us).1 := by
    have := P1.sets (us := us) (t := t) us.length 0 h rfl
    simpa using this
  unfold AM.push
  split
  · split
    · split
      · exact (hs.flush _).fence
      · exact hs.flush _
    · exact hs
  · exact h
/-- A word, whatever fall there was. -/
theorem P1.word (h : P1 us t a) (p : Nat) (hp : p < 48) : a.at_ (p : Int) = 0#64 ∨ Put us t p (a.at_ (p : Int)) := by
  have e : a.at_ (p : Int) = (a.ln (p / 8)).at_ ((p % 8 : Nat) : Int) := by
    unfold AM.at_
    rw [show ((p : Int) / 8).toNat = p / 8 by omega, show (p : Int) % 8 = ((p % 8 : Nat) : Int) by omega]
  rw [e]
  have := (h.lns (p / 8) (by omega)).at_ (p % 8) (by omega)
  rwa [show 8 * (p / 8) + p % 8 = p by omega] at this
end
/-! ### Without a fall -/
theorem burn_run {a : AM} (h : 0 < a.fuse) (h1 : a.fuse ≠ 1) : a.burn = ({ a with fuse := a.fuse - 1 }, true) := by unfold AM.burn; rw [if_pos h, if_neg h1]
theorem burn_dead {a : AM} (ho : a.off = false) (h : a.fuse = 1) : a.burn.2 = false ∧ a.burn.1.off = true := by
  unfold AM.burn
  rw [if_pos (by omega), if_pos h]
  refine ⟨rfl, ?_⟩
  rw [crash_on (a := { a with fuse := 0 }) _ ho]
structure Rn (us : List (BitVec 64)) (t k : Nat) (a : AM) : Prop where
  p1 : P1 us t a
  on : a.off = false
  fuse : 0 < a.fuse
  wd : ∀ p : Nat, p < 48 → a.at_ (p : Int) = if 8 + t ≤ p ∧ p < 8 + t + k then us.getD (p - 8 - t) 0#64 else 0#64
/-- One more word: set, or fallen. -/
theorem Rn.set {us : List (BitVec 64)} {t k : Nat} {a : AM} (h : Rn us t k a) (hk : k < us.length) (ht : t + us.length ≤ 32) :
    ((a.set 1 4 (t + k : Nat) us[k]).2 = 0 ∧ Rn us t (k + 1) (a.set 1 4 (t + k : Nat) us[k]).1) ∨ ((a.set 1 4 (t + k : Nat) us[k]).2 = 14 ∧ (a.set 1 4 (t + k : Nat) us[k]).1.off = true) := by
  have hin : spIn 4 ((t + k : Nat) : Int) = true := decide_eq_true ⟨by omega, by omega⟩
  have hh : a.has (8 * 1 + ((t + k : Nat) : Int)) = true := decide_eq_true (by rw [h.p1.len]; omega)
  have hst : a.set 1 4 (t + k : Nat) us[k] = if a.burn.2 = false then (a.burn.1, 14) else (a.burn.1.store1 (8 * 1 + ((t + k : Nat) : Int)) us[k], 0) := by
    unfold AM.set AM.store
    rw [if_pos hin, if_neg (by rw [h.on]; exact Bool.false_ne_true), if_neg (by rw [hh]; exact fun h => by cases h)]
  rw [hst]
  by_cases h1 : a.fuse = 1
  · obtain ⟨e1, e2⟩ := burn_dead h.on h1
    rw [if_pos e1]
    exact .inr ⟨rfl, e2⟩
  · have e := burn_run h.fuse h1
    rw [e, if_neg (fun h => by cases h)]
    have hh2 : ({ a with fuse := a.fuse - 1 } : AM).has (8 * 1 + ((t + k : Nat) : Int)) = true := hh
    refine .inl ⟨rfl, (h.p1.of_ls (b := { a with fuse := a.fuse - 1 }) rfl).store1 hk (by omega) hh2, h.on, by show 0 < a.fuse - 1; have := h.fuse; omega, fun p hp => ?_⟩
    show (AM.store1 _ _ _).at_ _ = _
    rw [store1_at hh2 (by omega)]
    by_cases e9 : 8 * 1 + ((t + k : Nat) : Int) = (p : Int)
    · rw [if_pos e9, if_pos (by omega), show p - 8 - t = k by omega, List.getD_eq_getElem?_getD, List.getElem?_eq_getElem hk]; rfl
    · rw [if_neg e9]
      have hw : ({ a with fuse := a.fuse - 1 } : AM).at_ (p : Int) = a.at_ (p : Int) := rfl
      rw [hw, h.wd p hp]
      by_cases g : 8 + t ≤ p ∧ p < 8 + t + k
      · rw [if_pos g, if_pos (by omega)]
      · rw [if_neg g, if_neg (by omega)]
theorem Rn.sets {us : List (BitVec 64)} {t : Nat} (ht : t + us.length ≤ 32) : ∀ (m k : Nat) {a : AM}, Rn us t k a → m = us.length - k → k ≤ us.length →
    ((a.sets 1 4 (t + k : Nat) (us.drop k)).2 = 0 ∧ Rn us t us.length (a.sets 1 4 (t + k : Nat) (us.drop k)).1) ∨ ((a.sets 1 4 (t + k : Nat) (us.drop k)).2 = 14 ∧ (a.sets 1 4 (t + k : Nat) (us.drop k)).1.off = true)
  | 0, k, a, h, e, hk => by
    obtain rfl : k = us.length := by omega
    rw [List.drop_length]
    exact .inl ⟨rfl, h⟩
  | m + 1, k, a, h, e, hk => by
    have hq : k < us.length := by omega
    rw [sets_drop us k hq]
    rcases h.set hq ht with ⟨h1, h2⟩ | ⟨h1, h2⟩
    · rw [if_pos h1]
      have := Rn.sets ht m (k + 1) h2 (by omega) (by omega)
      rw [show ((t + (k + 1) : Nat) : Int) = ((t + k : Nat) : Int) + 1 by omega] at this
      exact this
    · rw [if_neg (by omega)]
      exact .inr ⟨h1, h2⟩
theorem flushL_in (zs : List Int) : ∀ (ls : List Ln) (i : Nat) (l : Ln), ls[i]? = some l → (∃ z ∈ zs, z.toNat = i) → (flushL ls zs)[i]? = some l.flush := by
  induction zs with
  | nil => rintro ls i l h ⟨z, hz, _⟩; cases hz
  | cons z zs ih =>
    intro ls i l h hz
    have hi := (List.getElem?_eq_some_iff.1 h).1
    by_cases e : z.toNat = i
    · have h2 : (ls.set z.toNat (ls.getD z.toNat z0).flush)[i]? = some l.flush := by
        rw [List.getElem?_set, if_pos e, if_pos (by omega), e, List.getD_eq_getElem?_getD, h]; rfl
      rcases flushL_get zs _ i _ h2 with h3 | h3
      · exact h3
      · exact h3
    · have h2 : (ls.set z.toNat (ls.getD z.toNat z0).flush)[i]? = some l := by rw [List.getElem?_set, if_neg e, h]
      obtain ⟨y, hy, hye⟩ := hz
      rcases List.mem_cons.1 hy with rfl | hy
      · exact absurd hye e
      · exact ih _ i _ h2 ⟨y, hy, hye⟩
/-- A line of which nothing is open, or all is flushed, tells behind a fence what it told; nothing is open. -/
theorem fence_at {l : Ln} (hl : l.ss.length = 8) (h : l.os = [] ∨ l.fl = l.os.length) (j : Nat) (hj : j < 8) : l.fence.at_ (j : Int) = l.at_ (j : Int) ∧ l.fence.os = [] := by
  have e1 : l.os.take l.fl = l.os ∧ l.os.drop l.fl = [] := by
    rcases h with h | h
    · rw [h]; simp
    · rw [h]; exact ⟨List.take_length, List.drop_length⟩
  refine ⟨?_, e1.2⟩
  rw [at_eq _ _ hj, at_eq _ _ hj]
  show lastV ((doW l.ss (l.os.take l.fl)).getD j 0#64) (l.os.drop l.fl) j = _
  rw [e1.1, e1.2]
  show (doW l.ss l.os).getD j 0#64 = _
  rw [List.getD_eq_getElem?_getD, doW_get _ (List.getElem?_eq_getElem (show j < l.ss.length by omega)), List.getD_eq_getElem?_getD, List.getElem?_eq_getElem (show j < l.ss.length by omega)]
  rfl
/-- What a push answers, and what there is then. -/
theorem push_all {us : List (BitVec 64)} {t : Nat} {a : AM} (h : Rn us t 0 a) (ht : t + us.length ≤ 32) (hu : 0 < us.length) :
    ((a.push 1 4 (t : Int) us).2 = 14 ∧ (a.push 1 4 (t : Int) us).1.off = true) ∨
    ((a.push 1 4 (t : Int) us).2 = 0 ∧ (a.push 1 4 (t : Int) us).1.off = false ∧ ∀ (ks : List Int) (p : Nat), p < 48 → ((a.push 1 4 (t : Int) us).1.crash ks).on.at_ (p : Int) = if 8 + t ≤ p ∧ p < 8 + t + us.length then us.getD (p - 8 - t) 0#64 else 0#64) := by
  have hmay : mayPush 4 (t : Int) us.length = true := by
    unfold mayPush
    rw [Bool.and_eq_true, Bool.and_eq_true, decide_eq_true_eq, decide_eq_true_eq]
    exact ⟨⟨decide_eq_true ⟨by omega, by omega⟩, hu⟩, by omega⟩
  have hs := Rn.sets ht us.length 0 h rfl (Nat.zero_le _)
  simp only [Nat.add_zero, List.drop_zero] at hs
  unfold AM.push
  rw [if_pos hmay]
  rcases hs with ⟨h1, h2⟩ | ⟨h1, h2⟩
  · rw [if_pos h1]
    generalize (a.sets 1 4 (t : Int) us).1 = b at *
    have hL : (lns 1 (t : Int) us.length).any b.none = false := by
      rw [List.any_eq_false]
      intro z hz
      unfold lns at hz
      rw [List.mem_map] at hz
      obtain ⟨i, hi, rfl⟩ := hz
      have := List.mem_range.1 hi
      unfold AM.none
      rw [h2.p1.len]
      simp only [decide_eq_true_eq]
      omega
    have hfl : b.flush (lns 1 (t : Int) us.length) = if b.burn.2 = false then (b.burn.1, 14) else ({ b.burn.1 with ls := flushL b.burn.1.ls (lns 1 (t : Int) us.length), n2 := b.burn.1.n2 + 1 }, 0) := by
      unfold AM.flush
      rw [if_neg (by rw [h2.on]; exact Bool.false_ne_true), if_neg (by rw [hL]; exact fun h => by cases h)]
    by_cases hf1 : b.fuse = 1
    · obtain ⟨e1, e2⟩ := burn_dead h2.on hf1
      rw [hfl, if_pos e1, if_neg (show ¬ (14 : Int) = 0 by decide)]
      exact .inl ⟨rfl, e2⟩
    have e := burn_run h2.fuse hf1
    have hfl2 : b.flush (lns 1 (t : Int) us.length) = ({ b with fuse := b.fuse - 1, ls := flushL b.ls (lns 1 (t : Int) us.length), n2 := b.n2 + 1 }, 0) := by
      rw [hfl, e]
      exact if_neg (fun h => by cases h)
    rw [hfl2, if_pos rfl]
    have hP : P1 us t { b with fuse := b.fuse - 1, ls := flushL b.ls (lns 1 (t : Int) us.length), n2 := b.n2 + 1 } := by
      have := h2.p1.flush (lns 1 (t : Int) us.length)
      rw [hfl2] at this
      exact this
    have hlnf : ∀ i, i < 6 → ∃ l, ({ b with fuse := b.fuse - 1, ls := flushL b.ls (lns 1 (t : Int) us.length), n2 := b.n2 + 1 } : AM).ls[i]? = some l ∧ (l.os = [] ∨ l.fl = l.os.length) ∧ l.ss = (b.ln i).ss ∧ l.os = (b.ln i).os := fun i hi => by
      have hg := get_ln (a := b) (i := i) (by rw [h2.p1.len]; exact hi)
      cases hos : (b.ln i).os with
      | nil =>
        rcases flushL_get (lns 1 (t : Int) us.length) b.ls i _ hg with h3 | h3
        · exact ⟨_, h3, .inl hos, rfl, hos⟩
        · exact ⟨_, h3, .inl hos, rfl, hos⟩
      | cons s os =>
        have hsm : s ∈ (b.ln i).os := by rw [hos]; exact List.mem_cons_self ..
        obtain ⟨g1, g2⟩ := (h2.p1.lns i hi).plc s hsm
        obtain ⟨q, hq, g3, _⟩ := (h2.p1.lns i hi).opn s hsm s.1.toNat (by omega)
        refine ⟨_, flushL_in (lns 1 (t : Int) us.length) b.ls i _ hg ⟨1 + ((t : Int) / 8 + ((i - 1 - t / 8 : Nat) : Int)), ?_, by omega⟩, .inr rfl, rfl, hos⟩
        unfold lns
        rw [List.mem_map]
        exact ⟨i - 1 - t / 8, List.mem_range.2 (by omega), rfl⟩
    have hatf : ∀ i, i < 6 → ∀ j, j < 8 → (({ b with fuse := b.fuse - 1, ls := flushL b.ls (lns 1 (t : Int) us.length), n2 := b.n2 + 1 } : AM).ln i).at_ ((j : Nat) : Int) = (b.ln i).at_ ((j : Nat) : Int) := fun i hi j hj => by
      obtain ⟨l, h3, _, h5, h6⟩ := hlnf i hi
      rw [ln_get h3, at_eq _ _ hj, at_eq _ _ hj, h5, h6]
    have hof : ∀ i, i < 6 → (({ b with fuse := b.fuse - 1, ls := flushL b.ls (lns 1 (t : Int) us.length), n2 := b.n2 + 1 } : AM).ln i).os = [] ∨ (({ b with fuse := b.fuse - 1, ls := flushL b.ls (lns 1 (t : Int) us.length), n2 := b.n2 + 1 } : AM).ln i).fl = (({ b with fuse := b.fuse - 1, ls := flushL b.ls (lns 1 (t : Int) us.length), n2 := b.n2 + 1 } : AM).ln i).os.length := fun i hi => by
      obtain ⟨l, h3, h4, _⟩ := hlnf i hi
      rw [ln_get h3]; exact h4
    have hfu : 0 < ({ b with fuse := b.fuse - 1, ls := flushL b.ls (lns 1 (t : Int) us.length), n2 := b.n2 + 1 } : AM).fuse := by show 0 < b.fuse - 1; have := h2.fuse; omega
    have hwd := h2.wd
    have hon : ({ b with fuse := b.fuse - 1, ls := flushL b.ls (lns 1 (t : Int) us.length), n2 := b.n2 + 1 } : AM).off = false := h2.on
    show _ ∨ _
    simp only
    generalize ({ b with fuse := b.fuse - 1, ls := flushL b.ls (lns 1 (t : Int) us.length), n2 := b.n2 + 1 } : AM) = c at *
    by_cases hc1 : c.fuse = 1
    · obtain ⟨e1, e2⟩ := burn_dead hon hc1
      have : c.fence = (c.burn.1, 14) := by unfold AM.fence; rw [if_neg (by rw [hon]; exact Bool.false_ne_true), if_pos e1]
      rw [this]
      exact .inl ⟨rfl, e2⟩
    · have e3 := burn_run hfu hc1
      have : c.fence = ({ c with fuse := c.fuse - 1, ls := c.ls.map Ln.fence, n3 := c.n3 + 1 }, 0) := by
        unfold AM.fence
        rw [if_neg (by rw [hon]; exact Bool.false_ne_true), e3, if_neg (fun h => by cases h)]
      rw [this]
      refine .inr ⟨rfl, hon, fun ks p hp => ?_⟩
      have hi : p / 8 < 6 := by omega
      have hg := get_ln (a := c) (i := p / 8) (by rw [hP.len]; exact hi)
      obtain ⟨f1, f2⟩ := fence_at (hP.lns _ hi).len (hof _ hi) (p % 8) (by omega)
      have hg2 : (c.ls.map Ln.fence)[p / 8]? = some (c.ln (p / 8)).fence := by rw [List.getElem?_map, hg]; rfl
      obtain ⟨z, hz⟩ := crashL_get (c.ls.map Ln.fence) ks (p / 8) _ hg2
      rw [if_pos f2] at hz
      have hln : ((({ c with fuse := c.fuse - 1, ls := c.ls.map Ln.fence, n3 := c.n3 + 1 } : AM).crash ks).on).ln (p / 8) = (c.ln (p / 8)).fence := by
        refine ln_get ?_
        show (AM.crash _ ks).ls[p / 8]? = _
        rw [crash_on (a := { c with fuse := c.fuse - 1, ls := c.ls.map Ln.fence, n3 := c.n3 + 1 }) ks hon]
        exact hz
      have e5 : ((({ c with fuse := c.fuse - 1, ls := c.ls.map Ln.fence, n3 := c.n3 + 1 } : AM).crash ks).on).at_ (p : Int) = (c.ln (p / 8)).fence.at_ ((p % 8 : Nat) : Int) := by
        unfold AM.at_
        rw [show ((p : Int) / 8).toNat = p / 8 by omega, show (p : Int) % 8 = ((p % 8 : Nat) : Int) by omega, hln]
      rw [e5, f1, hatf _ hi _ (by omega), ← hwd p hp]
      unfold AM.at_
      rw [show ((p : Int) / 8).toNat = p / 8 by omega, show (p : Int) % 8 = ((p % 8 : Nat) : Int) by omega]
  · rw [if_neg (by omega)]
    exact .inl ⟨h1, h2⟩
end Go.Proofs.Ytoifejinppjeeaa
