/- Regions whose order is drawn: what the static look over a region gives. No condition. -/
import Derived.Test.YtjblkeofjkdpbaaGreatDoorEngJ
namespace Go.Proofs.YtjblkeofjkdpbaaGreatDoor.Eng
open Go Go.RowKit
set_option linter.unusedVariables false
set_option linter.unusedSimpArgs false
theorem testBit_pow (a b : Nat) : Nat.testBit (2 ^ a) b = decide (a = b) := Nat.testBit_two_pow
theorem ancOf_bit {anc : List Nat} : ∀ (es : List Edge) (m a : Nat), ancOf anc es m = some a → (∀ k, a.testBit k = true ↔ m.testBit k = true ∨ ∃ e ∈ es, Region.binds .any e = true ∧ (e.on = k ∨ (anc.getD e.on 0).testBit k = true)) ∧ ∀ e ∈ es, Region.binds .any e = true → e.on < anc.length
  | [], m, a, h => by
    simp [ancOf] at h
    subst h
    exact ⟨fun k => by simp, fun e he => by cases he⟩
  | e :: es, m, a, h => by
    simp only [ancOf] at h
    split at h
    · rename_i hb
      split at h
      · rename_i b hg
        rw [getL_eq] at hg
        obtain ⟨h1, h2⟩ := ancOf_bit es _ _ h
        have hlt : e.on < anc.length := (List.getElem?_eq_some_iff.1 hg).1
        have hgd : anc.getD e.on 0 = b := by simp [List.getD, hg]
        refine ⟨fun k => ?_, fun e' he' hb' => ?_⟩
        · rw [h1 k]
          have e1 : (Nat.lor m (Nat.lor (2 ^ e.on) b)).testBit k = (m.testBit k || (decide (e.on = k) || b.testBit k)) := by
            show (m ||| (2 ^ e.on ||| b)).testBit k = _
            rw [Nat.testBit_or, Nat.testBit_or, testBit_pow]
          rw [e1]
          constructor
          · rintro (h | ⟨e', he', hb', hk⟩)
            · simp only [Bool.or_eq_true, decide_eq_true_eq] at h
              rcases h with h | h | h
              · exact .inl h
              · exact .inr ⟨e, by simp, hb, .inl h⟩
              · exact .inr ⟨e, by simp, hb, .inr (by rw [hgd]; exact h)⟩
            · exact .inr ⟨e', List.mem_cons_of_mem _ he', hb', hk⟩
          · rintro (h | ⟨e', he', hb', hk⟩)
            · left; simp [h]
            · rcases List.mem_cons.1 he' with rfl | he'
              · left
                rcases hk with hk | hk
                · simp [hk]
                · rw [hgd] at hk; simp [hk]
              · exact .inr ⟨e', he', hb', hk⟩
        · rcases List.mem_cons.1 he' with rfl | he'
          · exact hlt
          · exact h2 e' he' hb'
      · cases h
    · rename_i hb
      obtain ⟨h1, h2⟩ := ancOf_bit es _ _ h
      refine ⟨fun k => ?_, fun e' he' hb' => ?_⟩
      · rw [h1 k]
        constructor
        · rintro (h | ⟨e', he', r⟩)
          · exact .inl h
          · exact .inr ⟨e', List.mem_cons_of_mem _ he', r⟩
        · rintro (h | ⟨e', he', hb', r⟩)
          · exact .inl h
          · rcases List.mem_cons.1 he' with rfl | he'
            · rw [hb] at hb'; cases hb'
            · exact .inr ⟨e', he', hb', r⟩
      · rcases List.mem_cons.1 he' with rfl | he'
        · rw [hb] at hb'; cases hb'
        · exact h2 e' he' hb'
/-- What the numbers of those waited for say. -/
structure AncOK (ops : List Oper) (ancs : List Nat) : Prop where
  len : ancs.length = ops.length
  bit : ∀ i o, ops[i]? = some o → ∀ k, (ancs.getD i 0).testBit k = true ↔ ∃ e ∈ o.after, Region.binds .any e = true ∧ (e.on = k ∨ (ancs.getD e.on 0).testBit k = true)
  edge : ∀ i o, ops[i]? = some o → ∀ e ∈ o.after, Region.binds .any e = true → e.on < i
theorem ancAll_ok {ops : List Oper} : ∀ (os : List Oper) (acc ancs : List Nat), (∀ j, ops[acc.length + j]? = os[j]?) → acc.length + os.length = ops.length →
    (∀ i, i < acc.length → ∀ o, ops[i]? = some o → (∀ k, (acc.getD i 0).testBit k = true ↔ ∃ e ∈ o.after, Region.binds .any e = true ∧ (e.on = k ∨ (acc.getD e.on 0).testBit k = true)) ∧ ∀ e ∈ o.after, Region.binds .any e = true → e.on < i) →
    ancAll os acc = some ancs → AncOK ops ancs
  | [], acc, ancs, hj, hl, hacc, h => by
    simp [ancAll] at h
    subst h
    simp at hl
    refine ⟨hl, fun i o ho => ?_, fun i o ho => ?_⟩
    · exact (hacc i (by rw [hl]; exact (List.getElem?_eq_some_iff.1 ho).1) o ho).1
    · exact (hacc i (by rw [hl]; exact (List.getElem?_eq_some_iff.1 ho).1) o ho).2
  | o :: os, acc, ancs, hj, hl, hacc, h => by
    simp only [ancAll] at h
    split at h
    · rename_i a ha
      obtain ⟨h1, h2⟩ := ancOf_bit _ _ _ ha
      have hget : ∀ i, i < acc.length → (acc ++ [a]).getD i 0 = acc.getD i 0 := fun i hi => by simp [List.getD, List.getElem?_append_left hi]
      refine ancAll_ok os (acc ++ [a]) ancs (fun j => ?_) (by simp at hl ⊢; omega) (fun i hi o' ho' => ?_) h
      · have := hj (j + 1)
        simp only [List.length_append, List.length_cons, List.length_nil, Nat.zero_add]
        rw [show acc.length + 1 + j = acc.length + (j + 1) by omega, this]
        simp
      · by_cases hi' : i < acc.length
        · obtain ⟨h3, h4⟩ := hacc i hi' o' ho'
          refine ⟨fun k => ?_, h4⟩
          rw [hget i hi', h3 k]
          constructor
          · rintro ⟨e, he, hb, r⟩
            have := h4 e he hb
            exact ⟨e, he, hb, by rw [hget e.on (by omega)]; exact r⟩
          · rintro ⟨e, he, hb, r⟩
            have := h4 e he hb
            exact ⟨e, he, hb, by rw [hget e.on (by omega)] at r; exact r⟩
        · have e : i = acc.length := by simp at hi; omega
          subst e
          have : o' = o := by
            have := hj 0
            simp at this
            rw [this] at ho'
            cases ho'; rfl
          subst this
          refine ⟨fun k => ?_, fun e he hb => h2 e (by simpa using he) hb⟩
          have e1 : (acc ++ [a]).getD acc.length 0 = a := by simp [List.getD]
          rw [e1, h1 k]
          constructor
          · rintro (h | ⟨e, he, hb, r⟩)
            · simp at h
            · have hlt := h2 e he hb
              exact ⟨e, by simpa using he, hb, by rw [hget e.on hlt]; exact r⟩
          · rintro ⟨e, he, hb, r⟩
            have hlt := h2 e (by simpa using he) hb
            exact .inr ⟨e, by simpa using he, hb, by rw [hget e.on hlt] at r; exact r⟩
    · cases h
theorem AncOK.lt {ops : List Oper} {ancs : List Nat} (h : AncOK ops ancs) : ∀ (i : Nat) (o : Oper) (k : Nat), ops[i]? = some o → (ancs.getD i 0).testBit k = true → k < i := by
  intro i
  induction i using Nat.strongRecOn with
  | ind i ih =>
    intro o k ho hk
    obtain ⟨e, he, hb, r⟩ := (h.bit i o ho k).1 hk
    have hlt := h.edge i o ho e he hb
    rcases r with r | r
    · omega
    · have hi : i < ops.length := (List.getElem?_eq_some_iff.1 ho).1
      have := ih e.on hlt _ k (List.getElem?_eq_getElem (show e.on < ops.length by omega)) r
      omega
theorem memN_iff {k : Nat} : ∀ {l : List Nat}, memN k l = true ↔ k ∈ l
  | [] => by simp [memN]
  | x :: l => by
    simp only [memN]
    split
    · rename_i h
      simp [beq_tt h]
    · rename_i h
      have : k ≠ x := fun e => by rw [e] at h; simp at h
      rw [memN_iff, List.mem_cons]
      simp [this]
theorem noDup_ok : ∀ {l : List Nat}, noDup l = true → l.Nodup
  | [], _ => List.nodup_nil
  | x :: l, h => by
    simp only [noDup] at h
    split at h
    · cases h
    · rename_i hm
      exact List.nodup_cons.2 ⟨(fun e => by rw [memN_iff.2 e] at hm; cases hm), noDup_ok h⟩
theorem dst_mem {ops : List Oper} : ∀ {i : Nat} {o : Oper} {d : Nat}, ops[i]? = some o → o.dst = some d → d ∈ dsts ops := by
  induction ops with
  | nil => intro i o d h; simp at h
  | cons p ops ih =>
    intro i o d h hd
    cases i with
    | zero => simp at h; subst h; simp [dsts, hd]
    | succ i =>
      simp at h
      have := ih h hd
      simp only [dsts]
      split
      · exact List.mem_cons_of_mem _ this
      · exact this
theorem dst_inj {ops : List Oper} : (dsts ops).Nodup → ∀ {i j : Nat} {o p : Oper} {d : Nat}, ops[i]? = some o → ops[j]? = some p → o.dst = some d → p.dst = some d → i = j := by
  induction ops with
  | nil => intro _ i j o p d h; simp at h
  | cons q ops ih =>
    intro hn i j o p d hi hj ho hp
    have hn' : (dsts ops).Nodup := by
      simp only [dsts] at hn
      split at hn
      · exact (List.nodup_cons.1 hn).2
      · exact hn
    have key : ∀ {r : Oper} {k : Nat}, q.dst = some d → ops[k]? = some r → r.dst = some d → False := fun {r k} hq hr hd => by
      have hm := dst_mem hr hd
      simp only [dsts, hq] at hn
      exact (List.nodup_cons.1 hn).1 hm
    cases i with
    | zero =>
      simp at hi; subst hi
      cases j with
      | zero => rfl
      | succ j => simp at hj; exact (key ho hj hp).elim
    | succ i =>
      simp at hi
      cases j with
      | zero => simp at hj; subst hj; exact (key hp hi ho).elim
      | succ j => simp at hj; rw [ih hn' hi hj ho hp]
theorem useOK_ok {i a t : Nat} : ∀ {j0 : Nat} {ps : List Oper} {bs : List Nat}, useOK i a t j0 ps bs = true → ∀ j p b, ps[j]? = some p → bs[j]? = some b → p.dst = some t → j0 + j = i ∨ a.testBit (j0 + j) = true ∨ b.testBit i = true
  | j0, [], bs, _, j, p, b, hp, _, _ => by simp at hp
  | j0, q :: ps, [], h, j, p, b, hp, hb, _ => by simp at hb
  | j0, q :: ps, c :: bs, h, j, p, b, hp, hb, hd => by
    simp only [useOK] at h
    have rest : useOK i a t (j0 + 1) ps bs = true → ∀ j', j = j' + 1 → j0 + j = i ∨ a.testBit (j0 + j) = true ∨ b.testBit i = true := fun hr j' e => by
      subst e
      simp at hp hb
      have := useOK_ok hr j' p b hp hb hd
      rwa [show j0 + 1 + j' = j0 + (j' + 1) by omega] at this
    cases j with
    | zero =>
      simp at hp hb
      subst hp; subst hb
      rw [hd] at h
      dsimp only at h
      rw [show Nat.beq t t = true from Nat.beq_refl t] at h
      dsimp only at h
      split at h
      · cases h
      · rename_i hn
        cases e1 : Nat.beq j0 i with
        | true => exact .inl (beq_tt e1)
        | false =>
          cases e2 : a.testBit j0 with
          | true => exact .inr (.inl (by first | rfl | exact e2))
          | false =>
            cases e3 : c.testBit i with
            | true => exact .inr (.inr (by first | rfl | exact e3))
            | false => exact (hn e1 e2 e3).elim
    | succ j =>
      refine rest ?_ j rfl
      split at h
      · exact h
      · split at h
        · exact h
        · split at h
          · cases h
          · exact h
theorem usesOK_ok {ops : List Oper} {ancs : List Nat} {i a : Nat} : ∀ {ts : List Nat}, usesOK ops ancs i a ts = true → ∀ t ∈ ts, useOK i a t 0 ops ancs = true
  | [], _, t, ht => by cases ht
  | x :: ts, h, t, ht => by
    simp only [usesOK] at h
    split at h
    · rename_i hx
      rcases List.mem_cons.1 ht with rfl | ht
      · exact hx
      · exact usesOK_ok h t ht
    · cases h
theorem allUses_ok {ops : List Oper} {ancs : List Nat} : ∀ {i0 : Nat} {os : List Oper} {l : List Nat}, allUses ops ancs i0 os l = true → ∀ i o a, os[i]? = some o → l[i]? = some a → usesOK ops ancs (i0 + i) a (usesT ops o) = true
  | i0, [], l, _, i, o, a, ho, _ => by simp at ho
  | i0, q :: os, [], h, i, o, a, ho, ha => by simp at ha
  | i0, q :: os, c :: l, h, i, o, a, ho, ha => by
    simp only [allUses] at h
    split at h
    · rename_i hx
      cases i with
      | zero => simp at ho ha; subst ho; subst ha; exact hx
      | succ i =>
        simp at ho ha
        have := allUses_ok h i o a ho ha
        rwa [show i0 + 1 + i = i0 + (i + 1) by omega] at this
    · cases h
/-- What a well made region gives. -/
structure RegOK (ops : List Oper) (ancs : List Nat) : Prop extends AncOK ops ancs where
  uses : ∀ (i : Nat) (o : Oper) (t j : Nat) (p : Oper), ops[i]? = some o → t ∈ usesT ops o → ops[j]? = some p → p.dst = some t → j = i ∨ (ancs.getD i 0).testBit j = true ∨ (ancs.getD j 0).testBit i = true
  one : ∀ (i j : Nat) (o p : Oper) (d : Nat), ops[i]? = some o → ops[j]? = some p → o.dst = some d → p.dst = some d → i = j
theorem drawOK_ok {ops : List Oper} {ancs : List Nat} (h : drawOK ops = some ancs) : RegOK ops ancs := by
  unfold drawOK at h
  split at h
  · rename_i as' ha
    split at h
    · rename_i hu hd
      cases h
      have hA : AncOK ops ancs := ancAll_ok ops [] ancs (fun j => by simp) (by simp) (fun i hi => by simp at hi) ha
      refine ⟨hA, fun i o t j p ho ht hp hd' => ?_, fun i j o p d hi hj ho hp => dst_inj (noDup_ok hd) hi hj ho hp⟩
      have hil : i < ancs.length := by rw [hA.len]; exact (List.getElem?_eq_some_iff.1 ho).1
      have hjl : j < ancs.length := by rw [hA.len]; exact (List.getElem?_eq_some_iff.1 hp).1
      have h1 := allUses_ok hu i o _ ho (List.getElem?_eq_getElem hil)
      rw [Nat.zero_add] at h1
      have h2 := useOK_ok (usesOK_ok h1 t ht) j p _ hp (List.getElem?_eq_getElem hjl) hd'
      rw [Nat.zero_add] at h2
      have e1 : ancs.getD i 0 = ancs[i] := by simp [List.getD, hil]
      have e2 : ancs.getD j 0 = ancs[j] := by simp [List.getD, hjl]
      rw [e1, e2]
      exact h2
    · cases h
  · cases h
theorem disjN_ok : ∀ {l m : List Nat}, disjN l m = true → ∀ k, k ∈ l → k ∈ m → False
  | [], m, _, k, hk, _ => by cases hk
  | x :: l, m, h, k, hk, hm => by
    simp only [disjN] at h
    split at h
    · cases h
    · rename_i hx
      rcases List.mem_cons.1 hk with rfl | hk
      · rw [memN_iff.2 hm] at hx; cases hx
      · exact disjN_ok h k hk hm
theorem outOf_ok {lo hi : Nat} : ∀ {l : List Nat}, outOf lo hi l = true → ∀ k ∈ l, ¬ (lo ≤ k ∧ k < hi)
  | [], _, k, hk => by cases hk
  | x :: l, h, k, hk => by
    simp only [outOf] at h
    split at h
    · cases h
    · rename_i hn
      rcases List.mem_cons.1 hk with rfl | hk
      · rintro ⟨h1, h2⟩
        exact hn (Nat.ble_eq_true_of_le h1) (by simpa [Nat.blt_eq] using h2)
      · exact outOf_ok h k hk
/-- Two operations that have nothing to do with one another. -/
def Apart (L : Log) (rd wr : List Nat) : Prop := (∀ k, k ∈ L.wr → k ∈ rd → False) ∧ (∀ k, k ∈ wr → k ∈ L.rd → False) ∧ ∀ k ∈ rd, ¬ (L.lo ≤ k ∧ k < L.hi)
theorem apartB_ok {a : Nat} {rd wr : List Nat} : ∀ {i0 : Nat} {l : List Log}, apartB i0 a rd wr l = true → ∀ j L, l[j]? = some L → a.testBit (i0 + j) = true ∨ Apart L rd wr
  | i0, [], _, j, L, hL => by simp at hL
  | i0, g :: l, h, j, L, hL => by
    simp only [apartB] at h
    cases j with
    | zero =>
      simp at hL
      subst hL
      split at h
      · rename_i hb; exact .inl (by rw [Nat.add_zero]; exact hb)
      · split at h
        · rename_i h1 h2 h3
          exact .inr ⟨disjN_ok h1, disjN_ok h2, outOf_ok h3⟩
        · cases h
    | succ j =>
      simp at hL
      have hr : apartB (i0 + 1) a rd wr l = true := by
        split at h
        · exact h
        · split at h
          · exact h
          · cases h
      have := apartB_ok hr j L hL
      rwa [show i0 + 1 + j = i0 + (j + 1) by omega] at this
theorem below?_mem {thr x : Nat} : ∀ {l acc : List Nat}, x ∈ below? thr l acc ↔ x ∈ acc ∨ (x ∈ l ∧ x < thr)
  | [], acc => by simp [below?]
  | y :: l, acc => by
    simp only [below?]
    split
    · rename_i h
      have h' : y < thr := by simpa [Nat.blt_eq] using h
      rw [below?_mem]
      simp only [List.mem_cons]
      constructor
      · rintro ((rfl | h) | ⟨h, h2⟩)
        · exact .inr ⟨.inl rfl, h'⟩
        · exact .inl h
        · exact .inr ⟨.inr h, h2⟩
      · rintro (h | ⟨rfl | h, h2⟩)
        · exact .inl (.inr h)
        · exact .inl (.inl rfl)
        · exact .inr ⟨h, h2⟩
    · rename_i h
      have h' : ¬ y < thr := fun e => by rw [show Nat.blt y thr = true by simpa [Nat.blt_eq] using e] at h; cases h
      rw [below?_mem]
      simp only [List.mem_cons]
      constructor
      · rintro (h | ⟨h, h2⟩)
        · exact .inl h
        · exact .inr ⟨.inr h, h2⟩
      · rintro (h | ⟨rfl | h, h2⟩)
        · exact .inl h
        · exact (h' h2).elim
        · exact .inr ⟨h, h2⟩
end Go.Proofs.YtjblkeofjkdpbaaGreatDoor.Eng
