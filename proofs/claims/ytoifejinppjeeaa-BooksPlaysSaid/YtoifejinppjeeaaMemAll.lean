/- Plain laws of words pushed: what lasts, whatever fall comes. No program in sight. -/
import Derived.Test.YtoifejinppjeeaaSpanPush
namespace Go.Proofs.Ytoifejinppjeeaa
open Go.RowKit
set_option linter.unusedVariables false
set_option linter.unusedSimpArgs false
/-- At place p: the word that is pushed there. -/
def Put (us : List (BitVec 64)) (t p : Nat) (u : BitVec 64) : Prop := ∃ q, ∃ h : q < us.length, p = 8 + t + q ∧ u = us[q]
structure LG (us : List (BitVec 64)) (t i : Nat) (l : Ln) : Prop where
  len : l.ss.length = 8
  sure : ∀ j, j < 8 → l.ss.getD j 0#64 = 0#64 ∨ Put us t (8 * i + j) (l.ss.getD j 0#64)
  opn : ∀ s ∈ l.os, ∀ j : Nat, s.1 = (j : Int) → Put us t (8 * i + j) s.2
  plc : ∀ s ∈ l.os, 0 ≤ s.1 ∧ s.1 < 8
section
variable {us : List (BitVec 64)} {t i : Nat} {l : Ln}
theorem LG.doW (h : LG us t i l) (ws : List St) (hs : ∀ s ∈ ws, s ∈ l.os) (j : Nat) (hj : j < 8) : (doW l.ss ws).getD j 0#64 = 0#64 ∨ Put us t (8 * i + j) ((doW l.ss ws).getD j 0#64) := by
  have hg := doW_get ws (List.getElem?_eq_getElem (show j < l.ss.length by rw [h.len]; exact hj))
  have e : (Go.Proofs.Ytoifejinppjeeaa.doW l.ss ws).getD j 0#64 = lastV (l.ss[j]'(by rw [h.len]; exact hj)) ws j := by rw [List.getD_eq_getElem?_getD, hg]; rfl
  rw [e]
  rcases lastV_or ws (l.ss[j]'(by rw [h.len]; exact hj)) j with h1 | ⟨s, h1, h2, h3⟩
  · rw [h1]
    have := h.sure j hj
    rwa [show l.ss.getD j 0#64 = l.ss[j]'(by rw [h.len]; exact hj) by rw [List.getD_eq_getElem?_getD, List.getElem?_eq_getElem (by rw [h.len]; exact hj)]; rfl] at this
  · rw [← h3]
    exact .inr (h.opn s (hs s h1) j h2)
theorem LG.at_ (h : LG us t i l) (j : Nat) (hj : j < 8) : l.at_ (j : Int) = 0#64 ∨ Put us t (8 * i + j) (l.at_ (j : Int)) := by
  rw [at_eq l j hj]
  rcases lastV_or l.os (l.ss.getD j 0#64) j with h1 | ⟨s, h1, h2, h3⟩
  · rw [h1]; exact h.sure j hj
  · rw [← h3]; exact .inr (h.opn s h1 j h2)
theorem LG.fence (h : LG us t i l) : LG us t i l.fence :=
  ⟨(doW_len _ _).trans h.len, fun j hj => h.doW _ (fun s hs => List.mem_of_mem_take hs) j hj, fun s hs j e => h.opn s (List.mem_of_mem_drop hs) j e, fun s hs => h.plc s (List.mem_of_mem_drop hs)⟩
theorem LG.fall (h : LG us t i l) (z : Int) : LG us t i (l.fall z) :=
  ⟨(doW_len _ _).trans h.len, fun j hj => h.doW _ (fun s hs => List.mem_of_mem_take hs) j hj, (fun s hs => by cases hs), (fun s hs => by cases hs)⟩
theorem LG.flush (h : LG us t i l) : LG us t i l.flush := ⟨h.len, h.sure, h.opn, h.plc⟩
end
/-- Six lines whose words are nought or pushed there. -/
structure P1 (us : List (BitVec 64)) (t : Nat) (a : AM) : Prop where
  len : a.ls.length = 6
  lns : ∀ i, i < 6 → LG us t i (a.ln i)
section
variable {us : List (BitVec 64)} {t : Nat} {a : AM}
theorem P1.of_ls {b : AM} (h : P1 us t a) (e : b.ls = a.ls) : P1 us t b := ⟨by rw [e]; exact h.len, fun i hi => by
  have : b.ln i = a.ln i := by unfold AM.ln; rw [e]
  rw [this]; exact h.lns i hi⟩
theorem P1.crash (h : P1 us t a) (ks : List Int) : P1 us t (a.crash ks) := by
  refine ⟨(crash_len a ks).trans h.len, fun i hi => ?_⟩
  cases ho : a.off with
  | true =>
    have : a.crash ks = a := by unfold AM.crash; rw [if_pos ho]
    rw [this]; exact h.lns i hi
  | false =>
    obtain ⟨z, hz⟩ := crashL_get a.ls ks i _ (get_ln (a := a) (i := i) (by rw [h.len]; exact hi))
    have : (a.crash ks).ln i = if (a.ln i).os = [] then a.ln i else (a.ln i).fall z := by
      refine ln_get ?_
      rw [crash_on ks ho]
      exact hz
    rw [this]
    split
    · exact h.lns i hi
    · exact (h.lns i hi).fall z
theorem P1.burn (h : P1 us t a) : P1 us t a.burn.1 := by
  unfold AM.burn
  split
  · split
    · exact (P1.of_ls (b := { a with fuse := 0 }) h rfl).crash _
    · exact P1.of_ls (b := { a with fuse := a.fuse - 1 }) h rfl
  · exact h
theorem P1.store1 (h : P1 us t a) {q : Nat} (hq : q < us.length) {z : Int} (hz : z = 8 + t + q) (hh : a.has z = true) : P1 us t (a.store1 z us[q]) := by
  have h0 := has_yes hh
  refine ⟨(store1_len _ _ _).trans h.len, fun i hi => ?_⟩
  rw [store1_ln hh]
  split
  · rename_i e
    rw [e]
    have hl := h.lns i hi
    refine ⟨hl.len, hl.sure, fun s hs j ej => ?_, fun s hs => ?_⟩
    · rcases List.mem_append.1 hs with h1 | h1
      · exact hl.opn s h1 j ej
      · rw [List.mem_singleton.1 h1] at ej ⊢
        simp only at ej
        exact ⟨q, hq, by omega, rfl⟩
    · rcases List.mem_append.1 hs with h1 | h1
      · exact hl.plc s h1
      · rw [List.mem_singleton.1 h1]; simp only; omega
  · exact h.lns i hi
theorem has_burn (a : AM) (z : Int) : a.burn.1.has z = a.has z := by unfold AM.has; rw [burn_len]
theorem P1.store (h : P1 us t a) {q : Nat} (hq : q < us.length) {z : Int} (hz : z = 8 + t + q) : P1 us t (a.store z us[q]).1 := by
  unfold AM.store
  split
  · exact h
  · split
    · exact h
    · rename_i hh
      split
      · exact h.burn
      · exact h.burn.store1 hq hz (by rw [has_burn]; simpa using hh)
theorem P1.flush (h : P1 us t a) (zs : List Int) : P1 us t (a.flush zs).1 := by
  unfold AM.flush
  split
  · exact h
  · split
    · exact h
    · split
      · exact h.burn
      · have hb := h.burn
        refine ⟨(flushL_len _ _).trans hb.len, fun i hi => ?_⟩
        have hg := get_ln (a := a.burn.1) (i := i) (by rw [hb.len]; exact hi)
        rcases flushL_get zs a.burn.1.ls i _ hg with h1 | h1
        · rw [ln_get (a := { a.burn.1 with ls := flushL a.burn.1.ls zs, n2 := a.burn.1.n2 + 1 }) h1]; exact hb.lns i hi
        · rw [ln_get (a := { a.burn.1 with ls := flushL a.burn.1.ls zs, n2 := a.burn.1.n2 + 1 }) h1]; exact (hb.lns i hi).flush
theorem P1.fence (h : P1 us t a) : P1 us t a.fence.1 := by
  unfold AM.fence
  split
  · exact h
  · split
    · exact h.burn
    · have hb := h.burn
      refine ⟨(List.length_map _).trans hb.len, fun i hi => ?_⟩
      have hg := get_ln (a := a.burn.1) (i := i) (by rw [hb.len]; exact hi)
      have h1 : ({ a.burn.1 with ls := a.burn.1.ls.map Ln.fence, n3 := a.burn.1.n3 + 1 } : AM).ls[i]? = some (a.burn.1.ln i).fence := by simp only [List.getElem?_map, hg]; rfl
      rw [ln_get h1]
      exact (hb.lns i hi).fence
theorem P1.sets : ∀ (m : Nat) (q : Nat) {a : AM}, P1 us t a → m = us.length - q → P1 us t (a.sets 1 4 (t + q : Nat) (us.drop q)).1
  | 0, q, a, h, e => by
    rw [List.drop_eq_nil_iff.2 (by omega)]
    exact h
  | m + 1, q, a, h, e => by
    have hq : q < us.length := by omega
    rw [sets_drop us q hq]
    have hs : P1 us t (a.set 1 4 (t + q : Nat) us[q]).1 := by
      unfold AM.set
      split
      · exact h.store hq (by omega)
      · exact h
    split
    · have := P1.sets m (q + 1) hs (by omega)
      rw [show ((t + (q + 1) : Nat) : Int) = ((t + q : Nat) : Int) + 1 by omega] at this
      exact this
    · exact hs
theorem P1.push (h : P1 us t a) : P1 us t (a.push 1 4 (t : Int) us).1 := by
  have hs : P1 us t (a.sets 1 4 (t : Int) us).1 := by
    have := P1.sets (us := us) (t := t) us.length 0 h rfl
    simpa using this
  unfold AM.push
  split
  · split
    · split
      · exact (hs.flush _).fence
      · exact hs.flush _
    · exact hs
  · exact h
/-- A word, whatever fall there was. -/
theorem P1.word (h : P1 us t a) (p : Nat) (hp : p < 48) : a.at_ (p : Int) = 0#64 ∨ Put us t p (a.at_ (p : Int)) := by
  have e : a.at_ (p : Int) = (a.ln (p / 8)).at_ ((p % 8 : Nat) : Int) := by
    unfold AM.at_
    rw [show ((p : Int) / 8).toNat = p / 8 by omega, show (p : Int) % 8 = ((p % 8 : Nat) : Int) by omega]
  rw [e]
  have := (h.lns (p / 8) (by omega)).at_ (p % 8) (by omega)
  rwa [show 8 * (p / 8) + p % 8 = p by omega] at this
end
/-! ### Without a fall -/
theorem burn_run {a : AM} (h : 0 < a.fuse) (h1 : a.fuse ≠ 1) : a.burn = ({ a with fuse := a.fuse - 1 }, true) := by unfold AM.burn; rw [if_pos h, if_neg h1]
theorem burn_dead {a : AM} (ho : a.off = false) (h : a.fuse = 1) : a.burn.2 = false ∧ a.burn.1.off = true := by
  unfold AM.burn
  rw [if_pos (by omega), if_pos h]
  refine ⟨rfl, ?_⟩
  rw [crash_on (a := { a with fuse := 0 }) _ ho]
structure Rn (us : List (BitVec 64)) (t k : Nat) (a : AM) : Prop where
  p1 : P1 us t a
  on : a.off = false
  fuse : 0 < a.fuse
  wd : ∀ p : Nat, p < 48 → a.at_ (p : Int) = if 8 + t ≤ p ∧ p < 8 + t + k then us.getD (p - 8 - t) 0#64 else 0#64
/-- One more word: set, or fallen. -/
theorem Rn.set {us : List (BitVec 64)} {t k : Nat} {a : AM} (h : Rn us t k a) (hk : k < us.length) (ht : t + us.length ≤ 32) :
    ((a.set 1 4 (t + k : Nat) us[k]).2 = 0 ∧ Rn us t (k + 1) (a.set 1 4 (t + k : Nat) us[k]).1) ∨ ((a.set 1 4 (t + k : Nat) us[k]).2 = 14 ∧ (a.set 1 4 (t + k : Nat) us[k]).1.off = true) := by
  have hin : spIn 4 ((t + k : Nat) : Int) = true := decide_eq_true ⟨by omega, by omega⟩
  have hh : a.has (8 * 1 + ((t + k : Nat) : Int)) = true := decide_eq_true (by rw [h.p1.len]; omega)
  have hst : a.set 1 4 (t + k : Nat) us[k] = if a.burn.2 = false then (a.burn.1, 14) else (a.burn.1.store1 (8 * 1 + ((t + k : Nat) : Int)) us[k], 0) := by
    unfold AM.set AM.store
    rw [if_pos hin, if_neg (by rw [h.on]; exact Bool.false_ne_true), if_neg (by rw [hh]; exact fun h => by cases h)]
  rw [hst]
  by_cases h1 : a.fuse = 1
  · obtain ⟨e1, e2⟩ := burn_dead h.on h1
    rw [if_pos e1]
    exact .inr ⟨rfl, e2⟩
  · have e := burn_run h.fuse h1
    rw [e, if_neg (fun h => by cases h)]
    have hh2 : ({ a with fuse := a.fuse - 1 } : AM).has (8 * 1 + ((t + k : Nat) : Int)) = true := hh
    refine .inl ⟨rfl, (h.p1.of_ls (b := { a with fuse := a.fuse - 1 }) rfl).store1 hk (by omega) hh2, h.on, by show 0 < a.fuse - 1; have := h.fuse; omega, fun p hp => ?_⟩
    show (AM.store1 _ _ _).at_ _ = _
    rw [store1_at hh2 (by omega)]
    by_cases e9 : 8 * 1 + ((t + k : Nat) : Int) = (p : Int)
    · rw [if_pos e9, if_pos (by omega), show p - 8 - t = k by omega, List.getD_eq_getElem?_getD, List.getElem?_eq_getElem hk]; rfl
    · rw [if_neg e9]
      have hw : ({ a with fuse := a.fuse - 1 } : AM).at_ (p : Int) = a.at_ (p : Int) := rfl
      rw [hw, h.wd p hp]
      by_cases g : 8 + t ≤ p ∧ p < 8 + t + k
      · rw [if_pos g, if_pos (by omega)]
      · rw [if_neg g, if_neg (by omega)]
theorem Rn.sets {us : List (BitVec 64)} {t : Nat} (ht : t + us.length ≤ 32) : ∀ (m k : Nat) {a : AM}, Rn us t k a → m = us.length - k → k ≤ us.length →
    ((a.sets 1 4 (t + k : Nat) (us.drop k)).2 = 0 ∧ Rn us t us.length (a.sets 1 4 (t + k : Nat) (us.drop k)).1) ∨ ((a.sets 1 4 (t + k : Nat) (us.drop k)).2 = 14 ∧ (a.sets 1 4 (t + k : Nat) (us.drop k)).1.off = true)
  | 0, k, a, h, e, hk => by
    obtain rfl : k = us.length := by omega
    rw [List.drop_length]
    exact .inl ⟨rfl, h⟩
  | m + 1, k, a, h, e, hk => by
    have hq : k < us.length := by omega
    rw [sets_drop us k hq]
    rcases h.set hq ht with ⟨h1, h2⟩ | ⟨h1, h2⟩
    · rw [if_pos h1]
      have := Rn.sets ht m (k + 1) h2 (by omega) (by omega)
      rw [show ((t + (k + 1) : Nat) : Int) = ((t + k : Nat) : Int) + 1 by omega] at this
      exact this
    · rw [if_neg (by omega)]
      exact .inr ⟨h1, h2⟩
theorem flushL_in (zs : List Int) : ∀ (ls : List Ln) (i : Nat) (l : Ln), ls[i]? = some l → (∃ z ∈ zs, z.toNat = i) → (flushL ls zs)[i]? = some l.flush := by
  induction zs with
  | nil => rintro ls i l h ⟨z, hz, _⟩; cases hz
  | cons z zs ih =>
    intro ls i l h hz
    have hi := (List.getElem?_eq_some_iff.1 h).1
    by_cases e : z.toNat = i
    · have h2 : (ls.set z.toNat (ls.getD z.toNat z0).flush)[i]? = some l.flush := by
        rw [List.getElem?_set, if_pos e, if_pos (by omega), e, List.getD_eq_getElem?_getD, h]; rfl
      rcases flushL_get zs _ i _ h2 with h3 | h3
      · exact h3
      · exact h3
    · have h2 : (ls.set z.toNat (ls.getD z.toNat z0).flush)[i]? = some l := by rw [List.getElem?_set, if_neg e, h]
      obtain ⟨y, hy, hye⟩ := hz
      rcases List.mem_cons.1 hy with rfl | hy
      · exact absurd hye e
      · exact ih _ i _ h2 ⟨y, hy, hye⟩
/-- A line of which nothing is open, or all is flushed, tells behind a fence what it told; nothing is open. -/
theorem fence_at {l : Ln} (hl : l.ss.length = 8) (h : l.os = [] ∨ l.fl = l.os.length) (j : Nat) (hj : j < 8) : l.fence.at_ (j : Int) = l.at_ (j : Int) ∧ l.fence.os = [] := by
  have e1 : l.os.take l.fl = l.os ∧ l.os.drop l.fl = [] := by
    rcases h with h | h
    · rw [h]; simp
    · rw [h]; exact ⟨List.take_length, List.drop_length⟩
  refine ⟨?_, e1.2⟩
  rw [at_eq _ _ hj, at_eq _ _ hj]
  show lastV ((doW l.ss (l.os.take l.fl)).getD j 0#64) (l.os.drop l.fl) j = _
  rw [e1.1, e1.2]
  show (doW l.ss l.os).getD j 0#64 = _
  rw [List.getD_eq_getElem?_getD, doW_get _ (List.getElem?_eq_getElem (show j < l.ss.length by omega)), List.getD_eq_getElem?_getD, List.getElem?_eq_getElem (show j < l.ss.length by omega)]
  rfl
/-- What a push answers, and what there is then. -/
theorem push_all {us : List (BitVec 64)} {t : Nat} {a : AM} (h : Rn us t 0 a) (ht : t + us.length ≤ 32) (hu : 0 < us.length) :
    ((a.push 1 4 (t : Int) us).2 = 14 ∧ (a.push 1 4 (t : Int) us).1.off = true) ∨
    ((a.push 1 4 (t : Int) us).2 = 0 ∧ (a.push 1 4 (t : Int) us).1.off = false ∧ ∀ (ks : List Int) (p : Nat), p < 48 → ((a.push 1 4 (t : Int) us).1.crash ks).on.at_ (p : Int) = if 8 + t ≤ p ∧ p < 8 + t + us.length then us.getD (p - 8 - t) 0#64 else 0#64) := by
  have hmay : mayPush 4 (t : Int) us.length = true := by
    unfold mayPush
    rw [Bool.and_eq_true, Bool.and_eq_true, decide_eq_true_eq, decide_eq_true_eq]
    exact ⟨⟨decide_eq_true ⟨by omega, by omega⟩, hu⟩, by omega⟩
  have hs := Rn.sets ht us.length 0 h rfl (Nat.zero_le _)
  simp only [Nat.add_zero, List.drop_zero] at hs
  unfold AM.push
  rw [if_pos hmay]
  rcases hs with ⟨h1, h2⟩ | ⟨h1, h2⟩
  · rw [if_pos h1]
    generalize (a.sets 1 4 (t : Int) us).1 = b at *
    have hL : (lns 1 (t : Int) us.length).any b.none = false := by
      rw [List.any_eq_false]
      intro z hz
      unfold lns at hz
      rw [List.mem_map] at hz
      obtain ⟨i, hi, rfl⟩ := hz
      have := List.mem_range.1 hi
      unfold AM.none
      rw [h2.p1.len]
      simp only [decide_eq_true_eq]
      omega
    have hfl : b.flush (lns 1 (t : Int) us.length) = if b.burn.2 = false then (b.burn.1, 14) else ({ b.burn.1 with ls := flushL b.burn.1.ls (lns 1 (t : Int) us.length), n2 := b.burn.1.n2 + 1 }, 0) := by
      unfold AM.flush
      rw [if_neg (by rw [h2.on]; exact Bool.false_ne_true), if_neg (by rw [hL]; exact fun h => by cases h)]
    by_cases hf1 : b.fuse = 1
    · obtain ⟨e1, e2⟩ := burn_dead h2.on hf1
      rw [hfl, if_pos e1, if_neg (show ¬ (14 : Int) = 0 by decide)]
      exact .inl ⟨rfl, e2⟩
    have e := burn_run h2.fuse hf1
    have hfl2 : b.flush (lns 1 (t : Int) us.length) = ({ b with fuse := b.fuse - 1, ls := flushL b.ls (lns 1 (t : Int) us.length), n2 := b.n2 + 1 }, 0) := by
      rw [hfl, e]
      exact if_neg (fun h => by cases h)
    rw [hfl2, if_pos rfl]
    have hP : P1 us t { b with fuse := b.fuse - 1, ls := flushL b.ls (lns 1 (t : Int) us.length), n2 := b.n2 + 1 } := by
      have := h2.p1.flush (lns 1 (t : Int) us.length)
      rw [hfl2] at this
      exact this
    have hlnf : ∀ i, i < 6 → ∃ l, ({ b with fuse := b.fuse - 1, ls := flushL b.ls (lns 1 (t : Int) us.length), n2 := b.n2 + 1 } : AM).ls[i]? = some l ∧ (l.os = [] ∨ l.fl = l.os.length) ∧ l.ss = (b.ln i).ss ∧ l.os = (b.ln i).os := fun i hi => by
      have hg := get_ln (a := b) (i := i) (by rw [h2.p1.len]; exact hi)
      cases hos : (b.ln i).os with
      | nil =>
        rcases flushL_get (lns 1 (t : Int) us.length) b.ls i _ hg with h3 | h3
        · exact ⟨_, h3, .inl hos, rfl, hos⟩
        · exact ⟨_, h3, .inl hos, rfl, hos⟩
      | cons s os =>
        have hsm : s ∈ (b.ln i).os := by rw [hos]; exact List.mem_cons_self ..
        obtain ⟨g1, g2⟩ := (h2.p1.lns i hi).plc s hsm
        obtain ⟨q, hq, g3, _⟩ := (h2.p1.lns i hi).opn s hsm s.1.toNat (by omega)
        refine ⟨_, flushL_in (lns 1 (t : Int) us.length) b.ls i _ hg ⟨1 + ((t : Int) / 8 + ((i - 1 - t / 8 : Nat) : Int)), ?_, by omega⟩, .inr rfl, rfl, hos⟩
        unfold lns
        rw [List.mem_map]
        exact ⟨i - 1 - t / 8, List.mem_range.2 (by omega), rfl⟩
    have hatf : ∀ i, i < 6 → ∀ j, j < 8 → (({ b with fuse := b.fuse - 1, ls := flushL b.ls (lns 1 (t : Int) us.length), n2 := b.n2 + 1 } : AM).ln i).at_ ((j : Nat) : Int) = (b.ln i).at_ ((j : Nat) : Int) := fun i hi j hj => by
      obtain ⟨l, h3, _, h5, h6⟩ := hlnf i hi
      rw [ln_get h3, at_eq _ _ hj, at_eq _ _ hj, h5, h6]
    have hof : ∀ i, i < 6 → (({ b with fuse := b.fuse - 1, ls := flushL b.ls (lns 1 (t : Int) us.length), n2 := b.n2 + 1 } : AM).ln i).os = [] ∨ (({ b with fuse := b.fuse - 1, ls := flushL b.ls (lns 1 (t : Int) us.length), n2 := b.n2 + 1 } : AM).ln i).fl = (({ b with fuse := b.fuse - 1, ls := flushL b.ls (lns 1 (t : Int) us.length), n2 := b.n2 + 1 } : AM).ln i).os.length := fun i hi => by
      obtain ⟨l, h3, h4, _⟩ := hlnf i hi
      rw [ln_get h3]; exact h4
    have hfu : 0 < ({ b with fuse := b.fuse - 1, ls := flushL b.ls (lns 1 (t : Int) us.length), n2 := b.n2 + 1 } : AM).fuse := by show 0 < b.fuse - 1; have := h2.fuse; omega
    have hwd := h2.wd
    have hon : ({ b with fuse := b.fuse - 1, ls := flushL b.ls (lns 1 (t : Int) us.length), n2 := b.n2 + 1 } : AM).off = false := h2.on
    show _ ∨ _
    simp only
    generalize ({ b with fuse := b.fuse - 1, ls := flushL b.ls (lns 1 (t : Int) us.length), n2 := b.n2 + 1 } : AM) = c at *
    by_cases hc1 : c.fuse = 1
    · obtain ⟨e1, e2⟩ := burn_dead hon hc1
      have : c.fence = (c.burn.1, 14) := by unfold AM.fence; rw [if_neg (by rw [hon]; exact Bool.false_ne_true), if_pos e1]
      rw [this]
      exact .inl ⟨rfl, e2⟩
    · have e3 := burn_run hfu hc1
      have : c.fence = ({ c with fuse := c.fuse - 1, ls := c.ls.map Ln.fence, n3 := c.n3 + 1 }, 0) := by
        unfold AM.fence
        rw [if_neg (by rw [hon]; exact Bool.false_ne_true), e3, if_neg (fun h => by cases h)]
      rw [this]
      refine .inr ⟨rfl, hon, fun ks p hp => ?_⟩
      have hi : p / 8 < 6 := by omega
      have hg := get_ln (a := c) (i := p / 8) (by rw [hP.len]; exact hi)
      obtain ⟨f1, f2⟩ := fence_at (hP.lns _ hi).len (hof _ hi) (p % 8) (by omega)
      have hg2 : (c.ls.map Ln.fence)[p / 8]? = some (c.ln (p / 8)).fence := by rw [List.getElem?_map, hg]; rfl
      obtain ⟨z, hz⟩ := crashL_get (c.ls.map Ln.fence) ks (p / 8) _ hg2
      rw [if_pos f2] at hz
      have hln : ((({ c with fuse := c.fuse - 1, ls := c.ls.map Ln.fence, n3 := c.n3 + 1 } : AM).crash ks).on).ln (p / 8) = (c.ln (p / 8)).fence := by
        refine ln_get ?_
        show (AM.crash _ ks).ls[p / 8]? = _
        rw [crash_on (a := { c with fuse := c.fuse - 1, ls := c.ls.map Ln.fence, n3 := c.n3 + 1 }) ks hon]
        exact hz
      have e5 : ((({ c with fuse := c.fuse - 1, ls := c.ls.map Ln.fence, n3 := c.n3 + 1 } : AM).crash ks).on).at_ (p : Int) = (c.ln (p / 8)).fence.at_ ((p % 8 : Nat) : Int) := by
        unfold AM.at_
        rw [show ((p : Int) / 8).toNat = p / 8 by omega, show (p : Int) % 8 = ((p % 8 : Nat) : Int) by omega, hln]
      rw [e5, f1, hatf _ hi _ (by omega), ← hwd p hp]
      unfold AM.at_
      rw [show ((p : Int) / 8).toNat = p / 8 by omega, show (p : Int) % 8 = ((p % 8 : Nat) : Int) by omega]
  · rw [if_neg (by omega)]
    exact .inl ⟨h1, h2⟩
end Go.Proofs.Ytoifejinppjeeaa
namespace Go.Proofs.Ytoifejinppjeeaa
open Go.RowKit
set_option linter.unusedVariables false
set_option linter.unusedSimpArgs false
theorem fence_room' {a : AM} {r : Nat} (h : a.room r) : a.fence.1.room r := by
  unfold AM.fence
  split
  · exact h
  · split
    · exact burn_room h
    · exact fence_room (burn_room h)
theorem sets_room : ∀ (us : List (BitVec 64)) {a : AM} {r : Nat} (f n z : Int), a.room r → (a.sets f n z us).1.room (r + us.length)
  | [], a, r, f, n, z, h => h
  | u :: us, a, r, f, n, z, h => by
    show (if (a.set f n z u).2 = 0 then AM.sets (a.set f n z u).1 f n (z + 1) us else a.set f n z u).1.room _
    split
    · exact room_mono (sets_room us f n (z + 1) (set_room h f n z u)) (by simp; omega)
    · exact room_mono (set_room h f n z u) (by simp)
theorem push_room {a : AM} {r : Nat} (h : a.room r) (f n z : Int) (us : List (BitVec 64)) : (a.push f n z us).1.room (r + us.length) := by
  have hs := sets_room us f n z h
  unfold AM.push
  split
  · split
    · split
      · exact fence_room' (flush_room hs _)
      · exact flush_room hs _
    · exact hs
  · exact room_mono h (Nat.le_add_right _ _)
end Go.Proofs.Ytoifejinppjeeaa
namespace Go.Proofs.Ytoifejinppjeeaa
open Go.RowKit
set_option linter.unusedVariables false
set_option linter.unusedSimpArgs false
/-- Line i: all that it has, sure or open, may stand at its place. -/
structure LV (V : Nat → BitVec 64 → Prop) (i : Nat) (l : Ln) : Prop where
  len : l.ss.length = 8
  sure : ∀ j, j < 8 → V (8 * i + j) (l.ss.getD j 0#64)
  opn : ∀ s ∈ l.os, ∀ j : Nat, s.1 = (j : Int) → V (8 * i + j) s.2
  plc : ∀ s ∈ l.os, 0 ≤ s.1 ∧ s.1 < 8
section
variable {V : Nat → BitVec 64 → Prop} {i : Nat} {l : Ln}
theorem LV.doW (h : LV V i l) (ws : List St) (hs : ∀ s ∈ ws, s ∈ l.os) (j : Nat) (hj : j < 8) : V (8 * i + j) ((doW l.ss ws).getD j 0#64) := by
  have hg := doW_get ws (List.getElem?_eq_getElem (show j < l.ss.length by rw [h.len]; exact hj))
  have e : (Go.Proofs.Ytoifejinppjeeaa.doW l.ss ws).getD j 0#64 = lastV (l.ss[j]'(by rw [h.len]; exact hj)) ws j := by rw [List.getD_eq_getElem?_getD, hg]; rfl
  rw [e]
  rcases lastV_or ws (l.ss[j]'(by rw [h.len]; exact hj)) j with h1 | ⟨s, h1, h2, h3⟩
  · rw [h1]
    have := h.sure j hj
    rwa [show l.ss.getD j 0#64 = l.ss[j]'(by rw [h.len]; exact hj) by rw [List.getD_eq_getElem?_getD, List.getElem?_eq_getElem (by rw [h.len]; exact hj)]; rfl] at this
  · rw [← h3]
    exact h.opn s (hs s h1) j h2
theorem LV.at_ (h : LV V i l) (j : Nat) (hj : j < 8) : V (8 * i + j) (l.at_ (j : Int)) := by
  rw [at_eq l j hj]
  rcases lastV_or l.os (l.ss.getD j 0#64) j with h1 | ⟨s, h1, h2, h3⟩
  · rw [h1]; exact h.sure j hj
  · rw [← h3]; exact h.opn s h1 j h2
theorem LV.fence (h : LV V i l) : LV V i l.fence :=
  ⟨(doW_len _ _).trans h.len, fun j hj => h.doW _ (fun s hs => List.mem_of_mem_take hs) j hj, fun s hs j e => h.opn s (List.mem_of_mem_drop hs) j e, fun s hs => h.plc s (List.mem_of_mem_drop hs)⟩
theorem LV.fall (h : LV V i l) (z : Int) : LV V i (l.fall z) :=
  ⟨(doW_len _ _).trans h.len, fun j hj => h.doW _ (fun s hs => List.mem_of_mem_take hs) j hj, (fun s hs => by cases hs), (fun s hs => by cases hs)⟩
theorem LV.flush (h : LV V i l) : LV V i l.flush := ⟨h.len, h.sure, h.opn, h.plc⟩
theorem LV.store (h : LV V i l) {z : Int} {v : BitVec 64} (hz : 0 ≤ z ∧ z < 8) (hv : V (8 * i + z.toNat) v) : LV V i (l.store z v) := by
  refine ⟨h.len, h.sure, fun s hs j e => ?_, fun s hs => ?_⟩
  · rcases List.mem_append.1 hs with h1 | h1
    · exact h.opn s h1 j e
    · obtain rfl := List.mem_singleton.1 h1
      have : z.toNat = j := by simp only at e; omega
      rw [← this]; exact hv
  · rcases List.mem_append.1 hs with h1 | h1
    · exact h.plc s h1
    · obtain rfl := List.mem_singleton.1 h1
      exact hz
theorem LV.mono {V' : Nat → BitVec 64 → Prop} (h : LV V i l) (hv : ∀ p v, V p v → V' p v) : LV V' i l := ⟨h.len, fun j hj => hv _ _ (h.sure j hj), fun s hs j e => hv _ _ (h.opn s hs j e), h.plc⟩
end
def PW (V : Nat → BitVec 64 → Prop) (a : AM) : Prop := ∀ i, i < a.ls.length → LV V i (a.ln i)
/-- Nothing is open. -/
def Clean (a : AM) : Prop := ∀ i, i < a.ls.length → (a.ln i).os = []
section
variable {V : Nat → BitVec 64 → Prop} {a b : AM}
theorem ln_of_ls (e : b.ls = a.ls) (i : Nat) : b.ln i = a.ln i := by unfold AM.ln; rw [e]
theorem at_of_ls (e : b.ls = a.ls) (z : Int) : b.at_ z = a.at_ z := by unfold AM.at_; rw [ln_of_ls e]
theorem PW.of_ls (h : PW V a) (e : b.ls = a.ls) : PW V b := fun i hi => by rw [ln_of_ls e]; exact h i (by rw [← e]; exact hi)
theorem Clean.of_ls (h : Clean a) (e : b.ls = a.ls) : Clean b := fun i hi => by rw [ln_of_ls e]; exact h i (by rw [← e]; exact hi)
theorem PW.mono {V' : Nat → BitVec 64 → Prop} (h : PW V a) (hv : ∀ p v, V p v → V' p v) : PW V' a := fun i hi => (h i hi).mono hv
theorem at_word (a : AM) (p : Nat) : a.at_ (p : Int) = (a.ln (p / 8)).at_ ((p % 8 : Nat) : Int) := by
  unfold AM.at_
  rw [show ((p : Int) / 8).toNat = p / 8 by omega, show (p : Int) % 8 = ((p % 8 : Nat) : Int) by omega]
theorem PW.word (h : PW V a) (p : Nat) (hp : p < 8 * a.ls.length) : V p (a.at_ (p : Int)) := by
  rw [at_word]
  have := (h (p / 8) (by omega)).at_ (p % 8) (by omega)
  rwa [show 8 * (p / 8) + p % 8 = p by omega] at this
theorem crash_ln (ho : a.off = false) (ks : List Int) {i : Nat} (hi : i < a.ls.length) : ∃ z, (a.crash ks).ln i = if (a.ln i).os = [] then a.ln i else (a.ln i).fall z := by
  obtain ⟨z, hz⟩ := crashL_get a.ls ks i _ (get_ln (a := a) (i := i) hi)
  refine ⟨z, ln_get ?_⟩
  rw [crash_on ks ho]
  exact hz
theorem PW.crash (h : PW V a) (ks : List Int) : PW V (a.crash ks) := fun i hi => by
  rw [crash_len] at hi
  cases ho : a.off with
  | true =>
    have : a.crash ks = a := by unfold AM.crash; rw [if_pos ho]
    rw [this]; exact h i hi
  | false =>
    obtain ⟨z, hz⟩ := crash_ln ho ks hi
    rw [hz]
    split
    · exact h i hi
    · exact (h i hi).fall z
theorem crash_clean (ho : a.off = false) (ks : List Int) : Clean (a.crash ks) := fun i hi => by
  rw [crash_len] at hi
  obtain ⟨z, hz⟩ := crash_ln ho ks hi
  rw [hz]
  split
  · assumption
  · rfl
theorem crashL_id : ∀ (ls : List Ln) (ks : List Int), (∀ l ∈ ls, l.os = []) → crashL ks ls = ls
  | [], _, _ => rfl
  | l :: ls, ks, h => by
    simp only [crashL]
    rw [if_pos (h l (List.mem_cons_self ..)), crashL_id ls ks fun x hx => h x (List.mem_cons_of_mem _ hx)]
theorem Clean.mem (h : Clean a) : ∀ l ∈ a.ls, l.os = [] := fun l hl => by
  obtain ⟨i, hi, rfl⟩ := List.getElem_of_mem hl
  have := h i hi
  rwa [ln_eq hi] at this
theorem Clean.crash (h : Clean a) (ks : List Int) : (a.crash ks).ls = a.ls := by
  unfold AM.crash
  split
  · rfl
  · exact crashL_id _ _ h.mem
theorem Clean.room (h : Clean a) : a.room 0 := fun l hl => by rw [h.mem l hl]; exact Nat.zero_le _
/-- A call that can be done: done, or fallen. -/
theorem burn_or (ho : a.off = false) : (a.burn.2 = false ∧ a.burn.1.off = true ∧ Clean a.burn.1 ∧ 0 < a.fuse ∧ a.burn.1.fuse = 0) ∨ ∃ x, a.burn = ({ a with fuse := x }, true) ∧ (a.fuse = 0 → x = 0) ∧ (0 ≤ a.fuse → 0 ≤ x) ∧ x ≤ a.fuse := by
  unfold AM.burn
  split
  · rename_i h
    split
    · refine .inl ⟨rfl, ?_, crash_clean (a := { a with fuse := 0 }) ho _, h, ?_⟩
      · rw [crash_on (a := { a with fuse := 0 }) _ ho]
      · rw [crash_on (a := { a with fuse := 0 }) _ ho]
    · exact .inr ⟨_, rfl, by omega, by omega, by omega⟩
  · exact .inr ⟨a.fuse, rfl, id, id, Int.le_refl _⟩
theorem PW.burn (h : PW V a) : PW V a.burn.1 := by
  unfold AM.burn
  split
  · split
    · exact (h.of_ls (b := { a with fuse := 0 }) rfl).crash _
    · exact h.of_ls rfl
  · exact h
theorem PW.store1 (h : PW V a) {p : Nat} (hp : p < 8 * a.ls.length) {z : Int} (hz : z = (p : Int)) {v : BitVec 64} (hv : V p v) : PW V (a.store1 z v) := fun i hi => by
  rw [store1_len] at hi
  have hh : a.has z = true := decide_eq_true (by omega)
  rw [store1_ln hh]
  split
  · rename_i e
    have e2 : i = p / 8 := by omega
    rw [show (z / 8).toNat = p / 8 by omega, e2]
    refine (h _ (by omega)).store ⟨by omega, by omega⟩ ?_
    rwa [show 8 * (p / 8) + (z % 8).toNat = p by omega]
  · exact h i hi
theorem PW.store (h : PW V a) {p : Nat} {z : Int} (hz : z = (p : Int)) {v : BitVec 64} (hv : V p v) : PW V (a.store z v).1 := by
  unfold AM.store
  split
  · exact h
  · split
    · exact h
    · rename_i hh
      split
      · exact h.burn
      · have h0 : a.has z = true := by cases e : a.has z <;> simp_all
        have := has_yes h0
        exact h.burn.store1 (p := p) (by rw [burn_len]; omega) hz hv
theorem PW.flush (h : PW V a) (zs : List Int) : PW V (a.flush zs).1 := by
  unfold AM.flush
  split
  · exact h
  · split
    · exact h
    · split
      · exact h.burn
      · intro i hi
        have hi2 : i < a.burn.1.ls.length := by simpa [flushL_len] using hi
        have hg := get_ln (a := a.burn.1) (i := i) hi2
        rcases flushL_get zs a.burn.1.ls i _ hg with h1 | h1
        · rw [ln_get (a := { a.burn.1 with ls := flushL a.burn.1.ls zs, n2 := a.burn.1.n2 + 1 }) h1]; exact h.burn i hi2
        · rw [ln_get (a := { a.burn.1 with ls := flushL a.burn.1.ls zs, n2 := a.burn.1.n2 + 1 }) h1]; exact (h.burn i hi2).flush
theorem PW.fence (h : PW V a) : PW V a.fence.1 := by
  unfold AM.fence
  split
  · exact h
  · split
    · exact h.burn
    · intro i hi
      have hi2 : i < a.burn.1.ls.length := by simpa using hi
      have hg := get_ln (a := a.burn.1) (i := i) hi2
      have h1 : ({ a.burn.1 with ls := a.burn.1.ls.map Ln.fence, n3 := a.burn.1.n3 + 1 } : AM).ls[i]? = some (a.burn.1.ln i).fence := by simp only [List.getElem?_map, hg]; rfl
      rw [ln_get h1]
      exact (h.burn i hi2).fence
theorem PW.sets {us : List (BitVec 64)} {f n t : Nat} (hV : ∀ q (h : q < us.length), V (8 * f + t + q) us[q]) : ∀ (m q : Nat) {a : AM}, PW V a → m = us.length - q → PW V (a.sets f n (t + q : Nat) (us.drop q)).1
  | 0, q, a, h, e => by
    rw [List.drop_eq_nil_iff.2 (by omega)]
    exact h
  | m + 1, q, a, h, e => by
    have hq : q < us.length := by omega
    rw [sets_drop us q hq]
    have hs : PW V (a.set f n (t + q : Nat) us[q]).1 := by
      unfold AM.set
      split
      · exact h.store (p := 8 * f + t + q) (by omega) (hV q hq)
      · exact h
    split
    · have := PW.sets (n := n) hV m (q + 1) hs (by omega)
      rw [show ((t + (q + 1) : Nat) : Int) = ((t + q : Nat) : Int) + 1 by omega] at this
      exact this
    · exact hs
theorem PW.push {us : List (BitVec 64)} {f n t : Nat} (hV : ∀ q (h : q < us.length), V (8 * f + t + q) us[q]) (h : PW V a) : PW V (a.push f n (t : Int) us).1 := by
  have hs : PW V (a.sets f n (t : Int) us).1 := by
    have := PW.sets hV us.length 0 (n := n) h rfl
    simpa using this
  unfold AM.push
  split
  · split
    · split
      · exact (hs.flush _).fence
      · exact hs.flush _
    · exact hs
  · exact h
end
/-! ### What a push leaves -/
/-- In power; open is something only in the lines from lo to hi; the words are these. -/
structure Rg (lo hi : Nat) (W : Nat → BitVec 64) (N : Nat) (fz : Prop) (a : AM) : Prop where
  len : a.ls.length = N
  on : a.off = false
  ss : ∀ i, i < N → (a.ln i).ss.length = 8
  plc : ∀ i, i < N → ∀ s ∈ (a.ln i).os, 0 ≤ s.1 ∧ s.1 < 8
  opn : ∀ i, i < N → (a.ln i).os ≠ [] → lo ≤ i ∧ i ≤ hi
  wd : ∀ p, p < 8 * N → a.at_ (p : Int) = W p
  fz : fz → a.fuse = 0
  f0 : 0 ≤ a.fuse
def updW (W : Nat → BitVec 64) (p : Nat) (v : BitVec 64) : Nat → BitVec 64 := fun q => if p = q then v else W q
def wrW (W : Nat → BitVec 64) (t : Nat) (us : List (BitVec 64)) : Nat → BitVec 64 := fun p => if t ≤ p ∧ p < t + us.length then us.getD (p - t) 0#64 else W p
section
variable {lo hi N : Nat} {W : Nat → BitVec 64} {fz : Prop} {a : AM}
theorem Rg.words (h : Rg lo hi W N fz a) {W' : Nat → BitVec 64} (hw : ∀ p, p < 8 * N → W p = W' p) : Rg lo hi W' N fz a := ⟨h.len, h.on, h.ss, h.plc, h.opn, fun p hp => (h.wd p hp).trans (hw p hp), h.fz, h.f0⟩
theorem Rg.fused (h : Rg lo hi W N fz a) {x : Int} (hx : a.fuse = 0 → x = 0) (h0 : 0 ≤ x) : Rg lo hi W N fz { a with fuse := x } := ⟨h.len, h.on, h.ss, h.plc, h.opn, h.wd, fun k => hx (h.fz k), h0⟩
theorem Rg.store1 (h : Rg lo hi W N fz a) {p : Nat} (hp : p < 8 * N) (hl : lo ≤ p / 8 ∧ p / 8 ≤ hi) {z : Int} (hz : z = (p : Int)) (v : BitVec 64) : Rg lo hi (updW W p v) N fz (a.store1 z v) := by
  have hh : a.has z = true := decide_eq_true (by rw [h.len]; omega)
  refine ⟨(store1_len _ _ _).trans h.len, h.on, fun i hi => ?_, fun i hi => ?_, fun i hi hne => ?_, fun q hq => ?_, h.fz, h.f0⟩
  · rw [store1_ln hh]
    split
    · exact h.ss _ (by omega)
    · exact h.ss i hi
  · rw [store1_ln hh]
    split
    · intro s hs
      rcases List.mem_append.1 hs with h1 | h1
      · exact h.plc _ (by omega) s h1
      · obtain rfl := List.mem_singleton.1 h1
        exact ⟨by show 0 ≤ z % 8; omega, by show z % 8 < 8; omega⟩
    · exact h.plc i hi
  · rw [store1_ln hh] at hne
    split at hne
    · omega
    · exact h.opn i hi hne
  · rw [store1_at hh (by omega)]
    unfold updW
    by_cases e : p = q
    · rw [if_pos e, if_pos (by omega)]
    · rw [if_neg e, if_neg (by omega), h.wd q hq]
/-- A word set: it stands there, or there was a fall. -/
theorem Rg.set (h : Rg lo hi W N fz a) {f n t : Nat} (hn : f + n ≤ N) (ht : t < 8 * n) (hl : lo ≤ f + t / 8 ∧ f + t / 8 ≤ hi) (v : BitVec 64) :
    ((a.set f n t v).2 = 0 ∧ Rg lo hi (updW W (8 * f + t) v) N fz (a.set f n t v).1) ∨ ((a.set f n t v).2 = 14 ∧ (a.set f n t v).1.off = true ∧ Clean (a.set f n t v).1 ∧ 0 < a.fuse ∧ (a.set f n t v).1.fuse = 0) := by
  have hin : spIn n (t : Int) = true := decide_eq_true ⟨by omega, by omega⟩
  have hh : a.has (8 * (f : Int) + (t : Int)) = true := decide_eq_true (by rw [h.len]; omega)
  have hst : a.set f n t v = if a.burn.2 = false then (a.burn.1, 14) else (a.burn.1.store1 (8 * (f : Int) + (t : Int)) v, 0) := by
    unfold AM.set AM.store
    rw [if_pos hin, if_neg (by rw [h.on]; exact Bool.false_ne_true), if_neg (by rw [hh]; exact fun h => by cases h)]
  rw [hst]
  rcases burn_or h.on with ⟨e1, e2, e3, e4, e5⟩ | ⟨x, e, hx, hx0, _⟩
  · rw [if_pos e1]
    exact .inr ⟨rfl, e2, e3, e4, e5⟩
  · rw [e, if_neg (fun h => by cases h)]
    exact .inl ⟨rfl, (h.fused hx (hx0 h.f0)).store1 (by omega) (by omega) (by omega) v⟩
theorem wrW_zero (W : Nat → BitVec 64) (t : Nat) (us : List (BitVec 64)) : wrW W t (us.take 0) = W := by
  funext p
  unfold wrW
  rw [if_neg (by simp)]
theorem wrW_succ (W : Nat → BitVec 64) (t : Nat) (us : List (BitVec 64)) (k : Nat) (hk : k < us.length) : updW (wrW W t (us.take k)) (t + k) us[k] = wrW W t (us.take (k + 1)) := by
  funext p
  unfold updW wrW
  simp only [List.length_take]
  by_cases e : t + k = p
  · rw [if_pos e, if_pos (by omega), List.getD_eq_getElem?_getD, List.getElem?_take, if_pos (by omega), show p - t = k by omega, List.getElem?_eq_getElem hk]; rfl
  · rw [if_neg e]
    by_cases g : t ≤ p ∧ p < t + min k us.length
    · rw [if_pos g, if_pos (by omega), List.getD_eq_getElem?_getD, List.getD_eq_getElem?_getD, List.getElem?_take, if_pos (by omega), List.getElem?_take, if_pos (by omega)]
    · rw [if_neg g, if_neg (by omega)]
theorem Rg.sets {us : List (BitVec 64)} {f n t : Nat} (hn : f + n ≤ N) (ht : t + us.length ≤ 8 * n) (h1 : lo ≤ f + t / 8) (h2 : f + (t + us.length - 1) / 8 ≤ hi) : ∀ (m k : Nat) {a : AM}, Rg lo hi (wrW W (8 * f + t) (us.take k)) N fz a → m = us.length - k → k ≤ us.length →
    ((a.sets f n (t + k : Nat) (us.drop k)).2 = 0 ∧ Rg lo hi (wrW W (8 * f + t) us) N fz (a.sets f n (t + k : Nat) (us.drop k)).1) ∨ ((a.sets f n (t + k : Nat) (us.drop k)).2 = 14 ∧ (a.sets f n (t + k : Nat) (us.drop k)).1.off = true ∧ Clean (a.sets f n (t + k : Nat) (us.drop k)).1 ∧ (fz → False) ∧ (a.sets f n (t + k : Nat) (us.drop k)).1.fuse = 0)
  | 0, k, a, h, e, hk => by
    obtain rfl : k = us.length := by omega
    rw [List.drop_length]
    rw [List.take_length] at h
    exact .inl ⟨rfl, h⟩
  | m + 1, k, a, h, e, hk => by
    have hq : k < us.length := by omega
    rw [sets_drop us k hq]
    rcases h.set (f := f) (n := n) (t := t + k) hn (by omega) ⟨by omega, by omega⟩ us[k] with ⟨g1, g2⟩ | ⟨g1, g2, g3, g4, g5⟩
    · rw [if_pos g1]
      rw [show 8 * f + (t + k) = 8 * f + t + k by omega, wrW_succ _ _ _ _ hq] at g2
      have := Rg.sets hn ht h1 h2 m (k + 1) g2 (by omega) (by omega)
      rw [show ((t + (k + 1) : Nat) : Int) = ((t + k : Nat) : Int) + 1 by omega] at this
      exact this
    · rw [if_neg (by omega)]
      refine .inr ⟨g1, g2, g3, fun hz => ?_, g5⟩
      have := h.fz hz
      omega
theorem mayPush_yes {n t m : Nat} (ht : t + m ≤ 8 * n) (hm : 0 < m) : mayPush n (t : Int) m = true := by
  unfold mayPush
  rw [Bool.and_eq_true, Bool.and_eq_true, decide_eq_true_eq, decide_eq_true_eq]
  exact ⟨⟨decide_eq_true ⟨by omega, by omega⟩, hm⟩, by omega⟩
/-- What a push answers, and what there is then: all of it, and nothing open; or a fall. -/
theorem Rg.push {us : List (BitVec 64)} {f n t : Nat} (h : Rg (f + t / 8) (f + (t + us.length - 1) / 8) W N fz a) (hn : f + n ≤ N) (ht : t + us.length ≤ 8 * n) (hu : 0 < us.length) :
    ((a.push f n (t : Int) us).2 = 14 ∧ (a.push f n (t : Int) us).1.off = true ∧ Clean (a.push f n (t : Int) us).1 ∧ (fz → False) ∧ (a.push f n (t : Int) us).1.fuse = 0) ∨
    ((a.push f n (t : Int) us).2 = 0 ∧ Clean (a.push f n (t : Int) us).1 ∧ Rg 1 0 (wrW W (8 * f + t) us) N fz (a.push f n (t : Int) us).1) := by
  have hs := Rg.sets hn ht (Nat.le_refl _) (Nat.le_refl _) us.length 0 (W := W) (fz := fz) (a := a) (by rw [wrW_zero]; exact h) rfl (Nat.zero_le _)
  simp only [Nat.add_zero, List.drop_zero] at hs
  unfold AM.push
  rw [if_pos (mayPush_yes ht hu)]
  rcases hs with ⟨h1, h2⟩ | ⟨h1, h2, h3, h4, h5⟩
  · rw [if_pos h1]
    generalize (a.sets f n (t : Int) us).1 = b at *
    have hL : (lns f (t : Int) us.length).any b.none = false := by
      rw [List.any_eq_false]
      intro z hz
      unfold lns at hz
      rw [List.mem_map] at hz
      obtain ⟨i, hi, rfl⟩ := hz
      have := List.mem_range.1 hi
      unfold AM.none
      rw [h2.len]
      simp only [decide_eq_true_eq]
      omega
    have hfl : b.flush (lns f (t : Int) us.length) = if b.burn.2 = false then (b.burn.1, 14) else ({ b.burn.1 with ls := flushL b.burn.1.ls (lns f (t : Int) us.length), n2 := b.burn.1.n2 + 1 }, 0) := by
      unfold AM.flush
      rw [if_neg (by rw [h2.on]; exact Bool.false_ne_true), if_neg (by rw [hL]; exact fun h => by cases h)]
    rcases burn_or h2.on with ⟨e1, e2, e3, e4, e5⟩ | ⟨x, e, hx, hx0, _⟩
    · rw [hfl, if_pos e1, if_neg (show ¬ (14 : Int) = 0 by decide)]
      exact .inl ⟨rfl, e2, e3, fun hz => by have := h2.fz hz; omega, e5⟩
    have hfl2 : b.flush (lns f (t : Int) us.length) = ({ b with fuse := x, ls := flushL b.ls (lns f (t : Int) us.length), n2 := b.n2 + 1 }, 0) := by
      rw [hfl, e]
      exact if_neg (fun h => by cases h)
    rw [hfl2, if_pos rfl]
    have hlnf : ∀ i, i < N → ∃ l, ({ b with fuse := x, ls := flushL b.ls (lns f (t : Int) us.length), n2 := b.n2 + 1 } : AM).ls[i]? = some l ∧ (l.os = [] ∨ l.fl = l.os.length) ∧ l.ss = (b.ln i).ss ∧ l.os = (b.ln i).os := fun i hi => by
      have hg := get_ln (a := b) (i := i) (by rw [h2.len]; exact hi)
      by_cases hos : (b.ln i).os = []
      · rcases flushL_get (lns f (t : Int) us.length) b.ls i _ hg with h3 | h3
        · exact ⟨_, h3, .inl hos, rfl, rfl⟩
        · exact ⟨_, h3, .inl hos, rfl, rfl⟩
      · obtain ⟨g1, g2⟩ := h2.opn i hi hos
        refine ⟨_, flushL_in (lns f (t : Int) us.length) b.ls i _ hg ⟨(f : Int) + ((t : Int) / 8 + ((i - f - t / 8 : Nat) : Int)), ?_, by omega⟩, .inr rfl, rfl, rfl⟩
        unfold lns
        rw [List.mem_map]
        exact ⟨i - f - t / 8, List.mem_range.2 (by omega), rfl⟩
    have hlenc : ({ b with fuse := x, ls := flushL b.ls (lns f (t : Int) us.length), n2 := b.n2 + 1 } : AM).ls.length = N := (flushL_len _ _).trans h2.len
    have hss : ∀ i, i < N → (({ b with fuse := x, ls := flushL b.ls (lns f (t : Int) us.length), n2 := b.n2 + 1 } : AM).ln i).ss.length = 8 := fun i hi => by
      obtain ⟨l, h3, _, h5, _⟩ := hlnf i hi
      rw [ln_get h3, h5]; exact h2.ss i hi
    have hatf : ∀ i, i < N → ∀ j, j < 8 → (({ b with fuse := x, ls := flushL b.ls (lns f (t : Int) us.length), n2 := b.n2 + 1 } : AM).ln i).at_ ((j : Nat) : Int) = (b.ln i).at_ ((j : Nat) : Int) := fun i hi j hj => by
      obtain ⟨l, h3, _, h5, h6⟩ := hlnf i hi
      rw [ln_get h3, at_eq _ _ hj, at_eq _ _ hj, h5, h6]
    have hof : ∀ i, i < N → (({ b with fuse := x, ls := flushL b.ls (lns f (t : Int) us.length), n2 := b.n2 + 1 } : AM).ln i).os = [] ∨ (({ b with fuse := x, ls := flushL b.ls (lns f (t : Int) us.length), n2 := b.n2 + 1 } : AM).ln i).fl = (({ b with fuse := x, ls := flushL b.ls (lns f (t : Int) us.length), n2 := b.n2 + 1 } : AM).ln i).os.length := fun i hi => by
      obtain ⟨l, h3, h4, _⟩ := hlnf i hi
      rw [ln_get h3]; exact h4
    have hfu : 0 ≤ ({ b with fuse := x, ls := flushL b.ls (lns f (t : Int) us.length), n2 := b.n2 + 1 } : AM).fuse := hx0 h2.f0
    have hfz : fz → ({ b with fuse := x, ls := flushL b.ls (lns f (t : Int) us.length), n2 := b.n2 + 1 } : AM).fuse = 0 := fun hz => hx (h2.fz hz)
    have hwd := h2.wd
    have hon : ({ b with fuse := x, ls := flushL b.ls (lns f (t : Int) us.length), n2 := b.n2 + 1 } : AM).off = false := h2.on
    show _ ∨ _
    simp only
    generalize ({ b with fuse := x, ls := flushL b.ls (lns f (t : Int) us.length), n2 := b.n2 + 1 } : AM) = c at *
    rcases burn_or hon with ⟨e1, e2, e3, e4, e5⟩ | ⟨y, ey, hy, hy0, _⟩
    · have : c.fence = (c.burn.1, 14) := by unfold AM.fence; rw [if_neg (by rw [hon]; exact Bool.false_ne_true), if_pos e1]
      rw [this]
      exact .inl ⟨rfl, e2, e3, fun hz => by have := hfz hz; omega, e5⟩
    · have : c.fence = ({ c with fuse := y, ls := c.ls.map Ln.fence, n3 := c.n3 + 1 }, 0) := by
        unfold AM.fence
        rw [if_neg (by rw [hon]; exact Bool.false_ne_true), ey, if_neg (fun h => by cases h)]
      rw [this]
      have hln : ∀ i, i < N → (({ c with fuse := y, ls := c.ls.map Ln.fence, n3 := c.n3 + 1 } : AM).ln i) = (c.ln i).fence := fun i hi => by
        refine ln_get ?_
        have hg := get_ln (a := c) (i := i) (by rw [hlenc]; exact hi)
        show (c.ls.map Ln.fence)[i]? = _
        rw [List.getElem?_map, hg]; rfl
      have hcl : Clean ({ c with fuse := y, ls := c.ls.map Ln.fence, n3 := c.n3 + 1 } : AM) := fun i hi => by
        have hi2 : i < N := by rw [← hlenc]; simpa using hi
        rw [hln i hi2]
        exact (fence_at (hss i hi2) (hof i hi2) 0 (by omega)).2
      refine .inr ⟨rfl, hcl, ⟨by simpa using hlenc, hon, fun i hi => ?_, fun i hi s hs => ?_, fun i hi hne => ?_, fun p hp => ?_, fun hz => hy (hfz hz), hy0 hfu⟩⟩
      · rw [hln i hi]; exact (doW_len _ _).trans (hss i hi)
      · rw [hcl i (by simpa [hlenc] using hi)] at hs; cases hs
      · exact absurd (hcl i (by simpa [hlenc] using hi)) hne
      · have hi : p / 8 < N := by omega
        rw [at_word, hln _ hi, (fence_at (hss _ hi) (hof _ hi) (p % 8) (by omega)).1, hatf _ hi _ (by omega), ← hwd p hp, at_word]
  · rw [if_neg (by omega)]
    exact .inl ⟨h1, h2, h3, h4, h5⟩
end
end Go.Proofs.Ytoifejinppjeeaa
namespace Go.Proofs.Ytoifejinppjeeaa
open Go.RowKit
set_option linter.unusedVariables false
set_option linter.unusedSimpArgs false
theorem AM.cnt.crash' {a : AM} {N : Nat} (h : a.cnt N) (ks : List Int) : (a.crash ks).cnt N := by
  unfold AM.crash
  split
  · exact h
  · exact ⟨by simp, h.c1, h.c2, h.c3⟩
theorem AM.cnt.fence' {a : AM} {N : Nat} (h : a.cnt N) : a.fence.1.cnt (N + 1) := by
  unfold AM.fence
  split
  · exact h.mono (Nat.le_succ _)
  · split
    · exact h.burn.mono (Nat.le_succ _)
    · have hb := h.burn
      have h1 := hb.c1
      have h2 := hb.c2
      have h3 := hb.c3
      exact ⟨hb.f1, by simp only; omega, by simp only; omega, by simp only; omega⟩
theorem AM.cnt.sets : ∀ (us : List (BitVec 64)) {a : AM} {N : Nat} (f n z : Int), a.cnt N → (a.sets f n z us).1.cnt (N + us.length)
  | [], a, N, f, n, z, h => h
  | u :: us, a, N, f, n, z, h => by
    show (if (a.set f n z u).2 = 0 then AM.sets (a.set f n z u).1 f n (z + 1) us else a.set f n z u).1.cnt _
    split
    · exact (AM.cnt.sets us f n (z + 1) (h.set f n z u)).mono (by simp; omega)
    · exact (h.set f n z u).mono (by simp)
theorem AM.cnt.push {a : AM} {N : Nat} (h : a.cnt N) (f n z : Int) (us : List (BitVec 64)) : (a.push f n z us).1.cnt (N + us.length + 2) := by
  have hs := AM.cnt.sets us f n z h
  unfold AM.push
  split
  · split
    · split
      · exact (hs.flush _).fence'
      · exact (hs.flush _).mono (by omega)
    · exact hs.mono (by omega)
  · exact h.mono (by omega)
theorem sets_len : ∀ (us : List (BitVec 64)) {a : AM} (f n z : Int), (a.sets f n z us).1.ls.length = a.ls.length
  | [], a, f, n, z => rfl
  | u :: us, a, f, n, z => by
    show (if (a.set f n z u).2 = 0 then AM.sets (a.set f n z u).1 f n (z + 1) us else a.set f n z u).1.ls.length = _
    split
    · exact (sets_len us f n (z + 1)).trans (set_len' _ _ _ _ _)
    · exact set_len' _ _ _ _ _
theorem flush_len (a : AM) (zs : List Int) : (a.flush zs).1.ls.length = a.ls.length := by
  unfold AM.flush
  split
  · rfl
  · split
    · rfl
    · split
      · exact burn_len _
      · exact (flushL_len _ _).trans (burn_len _)
theorem fence_len (a : AM) : a.fence.1.ls.length = a.ls.length := by
  unfold AM.fence
  split
  · rfl
  · split
    · exact burn_len _
    · exact (List.length_map _).trans (burn_len _)
theorem push_len (a : AM) (f n z : Int) (us : List (BitVec 64)) : (a.push f n z us).1.ls.length = a.ls.length := by
  have hs := sets_len us (a := a) f n z
  unfold AM.push
  split
  · split
    · split
      · exact (fence_len _).trans ((flush_len _ _).trans hs)
      · exact (flush_len _ _).trans hs
    · exact hs
  · rfl
end Go.Proofs.Ytoifejinppjeeaa
namespace Go.Proofs.Ytoifejinppjeeaa
open Go.RowKit
set_option linter.unusedVariables false
set_option linter.unusedSimpArgs false
def Wl (ws : List (BitVec 64)) : Nat → BitVec 64 := fun p => ws.getD p 0#64
theorem Wl_get {ws : List (BitVec 64)} {p : Nat} (h : p < ws.length) : Wl ws p = ws[p] := by unfold Wl; rw [List.getD_eq_getElem?_getD, List.getElem?_eq_getElem h]; rfl
theorem updW_Wl {ws : List (BitVec 64)} {p : Nat} (h : p < ws.length) (v : BitVec 64) : updW (Wl ws) p v = Wl (ws.set p v) := by
  funext q
  unfold updW Wl
  rw [List.getD_eq_getElem?_getD, List.getD_eq_getElem?_getD, List.getElem?_set]
  by_cases e : p = q
  · rw [if_pos e, if_pos e, if_pos h]; rfl
  · rw [if_neg e, if_neg e]
theorem wrW_Wl {ws us : List (BitVec 64)} {t : Nat} (h : t + us.length ≤ ws.length) : wrW (Wl ws) t us = Wl (laid ws t us) := by
  funext q
  unfold wrW Wl
  rw [List.getD_eq_getElem?_getD, List.getD_eq_getElem?_getD, List.getD_eq_getElem?_getD]
  by_cases hq : q < ws.length
  · rw [laid_get ws t us h q hq]
    split <;> rfl
  · rw [if_neg (by omega), List.getElem?_eq_none (by omega), List.getElem?_eq_none (by rw [length_laid ws t us h]; omega)]
theorem laid_zero (ws us : List (BitVec 64)) (t : Nat) : laid ws t (us.take 0) = ws := by simp [laid]
theorem laid_succ (ws us : List (BitVec 64)) (t k : Nat) (hk : k < us.length) (h : t + us.length ≤ ws.length) : (laid ws t (us.take k)).set (t + k) us[k] = laid ws t (us.take (k + 1)) := by
  have e1 : (us.take k).length = k := by rw [List.length_take]; omega
  have e2 : (us.take (k + 1)).length = k + 1 := by rw [List.length_take]; omega
  apply List.ext_getElem?
  intro j
  rw [List.getElem?_set]
  by_cases hj : j < ws.length
  · rw [laid_get ws t _ (by omega) j hj, laid_get ws t _ (by omega) j hj, e1, e2, length_laid ws t _ (by omega)]
    by_cases e : t + k = j
    · rw [if_pos e, if_pos (by omega), if_pos (by omega), List.getElem?_take, if_pos (by omega), show j - t = k by omega, List.getElem?_eq_getElem hk]
    · rw [if_neg e]
      by_cases g : t ≤ j ∧ j < t + k
      · rw [if_pos g, if_pos (by omega), List.getElem?_take, List.getElem?_take, if_pos (by omega), if_pos (by omega)]
      · rw [if_neg g, if_neg (by omega)]
  · rw [if_neg (by omega), List.getElem?_eq_none (by rw [length_laid ws t _ (by omega)]; omega), List.getElem?_eq_none (by rw [length_laid ws t _ (by omega)]; omega)]
section
variable {lo hi N : Nat} {fz : Prop} {a : AM} {ws : List (BitVec 64)}
theorem Rg.words_eq (h : Rg lo hi (Wl ws) N fz a) (hl : ws.length = 8 * N) : a.words = ws := by
  have hwl : a.words.length = 8 * N := by unfold AM.words; rw [words_len, h.len]
  apply List.ext_getElem?
  intro p
  by_cases hp : p < 8 * N
  · have := words_get a (p / 8) (p % 8) (by omega) (by rw [h.len]; omega)
    rw [show 8 * (p / 8) + p % 8 = p by omega] at this
    rw [this, ← at_word, h.wd p hp, Wl_get (by omega), List.getElem?_eq_getElem (by omega)]
  · rw [List.getElem?_eq_none (by omega), List.getElem?_eq_none (by omega)]
theorem Rg.allOf_eq (h : Rg lo hi (Wl ws) N fz a) (hl : ws.length = 8 * N) (f n : Nat) (hf : f + n ≤ N) : a.allOf f (8 * n) = (ws.drop (8 * f)).take (8 * n) := by
  apply List.ext_getElem?
  intro p
  by_cases hp : p < 8 * n
  · unfold AM.allOf
    rw [List.getElem?_map, List.getElem?_range hp, List.getElem?_take, if_pos hp, List.getElem?_drop, List.getElem?_eq_getElem (by omega)]
    simp only [Option.map_some]
    rw [← Wl_get (by omega), ← h.wd _ (by omega)]
    congr 1
  · rw [List.getElem?_eq_none (by rw [allOf_len]; omega), List.getElem?_eq_none (by rw [List.length_take]; omega)]
theorem fromA_ln (xs : List (BitVec 64)) {N i : Nat} (h : i < N) : (fromA xs N).ln i = ⟨chunkL xs i, [], 0⟩ := ln_get (by
  show (fromL xs N)[i]? = _
  unfold fromL
  rw [List.getElem?_map, List.getElem?_range h]; rfl)
theorem fromA_rg (lo hi : Nat) (xs : List (BitVec 64)) (N : Nat) (hl : xs.length = 8 * N) : Rg lo hi (Wl xs) N True (fromA xs N) := by
  refine ⟨fromL_len _ _, rfl, fun i hi => ?_, fun i hi s hs => ?_, fun i hi hne => ?_, fun p hp => ?_, fun _ => rfl, Int.le_refl _⟩
  · rw [fromA_ln xs hi]; unfold chunkL; simp; omega
  · rw [fromA_ln xs hi] at hs; cases hs
  · rw [fromA_ln xs hi] at hne; exact absurd rfl hne
  · rw [at_word, fromA_ln xs (by omega), at_eq _ _ (by omega)]
    show (chunkL xs (p / 8)).getD (p % 8) 0#64 = _
    unfold chunkL Wl
    rw [List.getD_eq_getElem?_getD, List.getD_eq_getElem?_getD, List.getElem?_take, if_pos (by omega), List.getElem?_drop, show 8 * (p / 8) + p % 8 = p by omega]
theorem fromA_room (xs : List (BitVec 64)) (N : Nat) : (fromA xs N).room 0 := fun l hl => by
  have : l ∈ fromL xs N := hl
  unfold fromL at this
  rw [List.mem_map] at this
  obtain ⟨i, _, rfl⟩ := this
  exact Nat.zero_le _
theorem fromA_cnt (xs : List (BitVec 64)) (N : Nat) : (fromA xs N).cnt 0 := ⟨by simp [fromA], by simp [fromA], by simp [fromA], by simp [fromA]⟩
theorem fromA_clean (xs : List (BitVec 64)) (N : Nat) : Clean (fromA xs N) := fun i hi => by rw [fromA_ln xs (by rw [← fromL_len xs N]; exact hi)]
/-- Nothing open: a fall, and power again, leave all words. -/
theorem Clean.fell (hc : Clean a) {W : Nat → BitVec 64} (h : Rg lo hi W N fz a) (ks : List Int) : Rg 1 0 W N True (a.crash ks).on ∧ Clean (a.crash ks).on := by
  have e : (a.crash ks).on.ls = a.ls := hc.crash ks
  have hf : (a.crash ks).fuse = 0 := by rw [crash_on ks h.on]
  refine ⟨⟨by rw [e]; exact h.len, rfl, fun i hi => by rw [ln_of_ls e]; exact h.ss i hi, fun i hi => by rw [ln_of_ls e]; exact h.plc i hi, fun i hi hne => ?_, fun p hp => by rw [at_of_ls e]; exact h.wd p hp, fun _ => hf, by show 0 ≤ (a.crash ks).fuse; omega⟩, hc.of_ls e⟩
  rw [ln_of_ls e, hc i (by rw [h.len]; exact hi)] at hne
  exact absurd rfl hne
theorem push_no {f n z : Int} {us : List (BitVec 64)} (h : mayPush n z us.length = false) : a.push f n z us = (a, 1) := by unfold AM.push; rw [h]; rfl
theorem set_no {f n z : Int} {v : BitVec 64} (h : spIn n z = false) : a.set f n z v = (a, 1) := by unfold AM.set; rw [h]; rfl
theorem word_no {f n z : Int} (h : spIn n z = false) : a.word f n z = (0#64, 1) := by unfold AM.word; rw [h]; rfl
theorem Rg.word {W : Nat → BitVec 64} (h : Rg lo hi W N fz a) {f n t : Nat} (hn : f + n ≤ N) (ht : t < 8 * n) : a.word f n t = (W (8 * f + t), 0) := by
  have hin : spIn n (t : Int) = true := decide_eq_true ⟨by omega, by omega⟩
  have hh : a.has (8 * (f : Int) + (t : Int)) = true := decide_eq_true (by rw [h.len]; omega)
  unfold AM.word AM.load
  rw [if_pos hin, if_neg (by rw [h.on]; exact Bool.false_ne_true), if_neg (by rw [hh]; exact fun h => by cases h), ← h.wd _ (by omega)]
  congr 1
end
end Go.Proofs.Ytoifejinppjeeaa
namespace Go.Proofs.Ytoifejinppjeeaa
open Go.RowKit
set_option linter.unusedVariables false
set_option linter.unusedSimpArgs false
structure SayS (N F M : Nat) (z : Int) (v : BitVec 64) (xs us : List (BitVec 64)) (a1 a2 : AM) (ys zs : List (BitVec 64)) (g0 k0 : Int) (wv : BitVec 64) : Prop where
  set : (fromA xs N).set F M z v = (a1, g0)
  word : a1.word F M z = (wv, g0)
  push : a1.push F M z us = (a2, k0)
  r1 : a1.room 1
  c1 : a1.cnt 1
  l1 : a1.ls.length = N
  w1 : a1.words = ys
  y1 : ys.length = 8 * N
  r2 : a2.room (1 + us.length)
  o2 : a2.off = false
  l2 : a2.ls.length = N
  w2 : a2.words = zs
  y2 : zs.length = 8 * N
  al : a2.allOf F (8 * M) = (zs.drop (8 * F)).take (8 * M)
  l3 : (a2.crash []).on.ls.length = N
  w3 : k0 = 0 → (a2.crash []).on.words = zs
section
variable {N F M : Nat} {z : Int} {v : BitVec 64} {xs us : List (BitVec 64)}
theorem on_len (a : AM) : a.on.ls.length = a.ls.length := rfl
theorem sayS_out (hl : xs.length = 8 * N) (hF : F + M ≤ N) (hz : z < 0 ∨ 8 * (M : Int) ≤ z) : ∃ a1 a2, SayS N F M z v xs us a1 a2 xs xs 1 1 0#64 := by
  have hno : spIn (M : Int) z = false := decide_eq_false (by omega)
  have hrg := fromA_rg 1 0 xs N hl
  have hmp : mayPush (M : Int) z us.length = false := by unfold mayPush; rw [hno]; rfl
  refine ⟨_, _, set_no hno, word_no hno, push_no hmp, room_mono (fromA_room xs N) (by omega), (fromA_cnt xs N).mono (by omega), fromL_len _ _, hrg.words_eq hl, hl, room_mono (fromA_room xs N) (by omega), rfl, fromL_len _ _, hrg.words_eq hl, hl, hrg.allOf_eq hl F M hF, ?_, fun h => by omega⟩
  rw [on_len, crash_len]; exact fromL_len _ _
theorem set_in (hl : xs.length = 8 * N) (hF : F + M ≤ N) {t : Nat} (ht : t < 8 * M) (lo hi : Nat) (hlh : lo ≤ F + t / 8 ∧ F + t / 8 ≤ hi) : ∃ a1, (fromA xs N).set F M t v = (a1, 0) ∧ Rg lo hi (Wl (xs.set (8 * F + t) v)) N True a1 ∧ a1.room 1 ∧ a1.cnt 1 := by
  have hrg := fromA_rg lo hi xs N hl
  rcases hrg.set hF ht hlh v with ⟨e, h⟩ | ⟨_, _, _, h, _⟩
  · rw [updW_Wl (by omega)] at h
    exact ⟨_, Prod.ext rfl e, h, set_room (fromA_room xs N) _ _ _ _, (fromA_cnt xs N).set _ _ _ _⟩
  · have : (fromA xs N).fuse = 0 := rfl
    omega
theorem sayS_in (hl : xs.length = 8 * N) (hF : F + M ≤ N) {t : Nat} (ht : t < 8 * M) (hu : us.length = 0 ∨ 8 * M < t + us.length) : ∃ a1 a2, SayS N F M t v xs us a1 a2 (xs.set (8 * F + t) v) (xs.set (8 * F + t) v) 0 1 v := by
  obtain ⟨a1, h1, h2, h3, h4⟩ := set_in (v := v) hl hF ht (F + t / 8) (F + t / 8) ⟨Nat.le_refl _, Nat.le_refl _⟩
  have hmp : mayPush (M : Int) t us.length = false := by
    unfold mayPush
    rcases hu with hu | hu
    · rw [hu]; simp
    · rw [decide_eq_false (p := ((us.length : Int) ≤ 8 * (M : Int) - (t : Int))) (by omega)]; simp
  have hyl : (xs.set (8 * F + t) v).length = 8 * N := by rw [List.length_set]; exact hl
  have hwv : Wl (xs.set (8 * F + t) v) (8 * F + t) = v := by rw [Wl_get (by omega)]; simp
  refine ⟨a1, a1, h1, ?_, push_no hmp, h3, h4, h2.len, h2.words_eq hyl, hyl, room_mono h3 (by omega), h2.on, h2.len, h2.words_eq hyl, hyl, h2.allOf_eq hyl F M hF, ?_, fun h => by omega⟩
  · rw [h2.word hF ht, hwv]
  · rw [on_len, crash_len]; exact h2.len
theorem sayS_fits (hl : xs.length = 8 * N) (hF : F + M ≤ N) {t : Nat} (hu : 0 < us.length) (ht : t + us.length ≤ 8 * M) : ∃ a1 a2, SayS N F M t v xs us a1 a2 (xs.set (8 * F + t) v) (laid (xs.set (8 * F + t) v) (8 * F + t) us) 0 0 v := by
  obtain ⟨a1, h1, h2, h3, h4⟩ := set_in (t := t) (v := v) hl hF (by omega) (F + t / 8) (F + (t + us.length - 1) / 8) ⟨Nat.le_refl _, by omega⟩
  have hyl : (xs.set (8 * F + t) v).length = 8 * N := by rw [List.length_set]; exact hl
  have hwv : Wl (xs.set (8 * F + t) v) (8 * F + t) = v := by rw [Wl_get (by omega)]; simp
  rcases h2.push hF ht hu with ⟨_, _, _, h, _⟩ | ⟨g1, g2, g3⟩
  · exact absurd trivial h
  have hr := push_room h3 (F : Int) (M : Int) (t : Int) us
  generalize hp : a1.push F M t us = pr at *
  obtain ⟨a2, k0⟩ := pr
  simp only at g1 g2 g3 hr
  subst g1
  rw [wrW_Wl (by omega)] at g3
  have hzl : (laid (xs.set (8 * F + t) v) (8 * F + t) us).length = 8 * N := by rw [length_laid _ _ _ (by omega)]; exact hyl
  obtain ⟨f1, f2⟩ := g2.fell g3 []
  refine ⟨a1, a2, h1, ?_, hp, h3, h4, h2.len, h2.words_eq hyl, hyl, hr, g3.on, g3.len, g3.words_eq hzl, hzl, g3.allOf_eq hzl F M hF, f1.len, fun _ => f1.words_eq hzl⟩
  rw [h2.word hF (by omega), hwv]
theorem laid_atQ {ys : List (BitVec 64)} {p k : Nat} (h : p + us.length ≤ ys.length) (hk : k < us.length) : (laid ys p us)[p + k]? = us[k]? := by
  rw [laid_get ys p us h (p + k) (by omega), if_pos (by omega), show p + k - p = k by omega]
theorem laid_at {ys : List (BitVec 64)} {p k : Nat} (h : p + us.length ≤ ys.length) (hk : k < us.length) : (laid ys p us)[p + k]'(by rw [length_laid ys p us h]; omega) = us[k] := by
  have h1 := laid_get ys p us h (p + k) (by omega)
  rw [if_pos (by omega), show p + k - p = k by omega, List.getElem?_eq_getElem (by rw [length_laid ys p us h]; omega), List.getElem?_eq_getElem hk] at h1
  exact Option.some.inj h1
end
end Go.Proofs.Ytoifejinppjeeaa
