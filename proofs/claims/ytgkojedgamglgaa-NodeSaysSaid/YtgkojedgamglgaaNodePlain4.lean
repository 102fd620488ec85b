/- When a node may be, as the reference asks it; in plain Lean. No condition. -/
import Derived.Test.YtgkojedgamglgaaNodeRef1
namespace Go.Proofs.Ytgkojedgamglgaa
set_option linter.unusedVariables false
set_option linter.unusedSimpArgs false
/-- What the reference asks of a run. -/
def okR (g : Geo) (il : Bool) (r : Rn) : Bool := (decide (1 ≤ r.2) && decide (0 ≤ r.1) && decide (r.1 ≤ 1024) && decide (r.2 ≤ 1024)) && ((decide (g.df ≤ r.1) && decide (r.1 + r.2 ≤ g.df + g.dn)) || il)
theorem okR_iff (g : Geo) (il : Bool) (r : Rn) : okR g il r = true ↔ (1 ≤ r.2 ∧ 0 ≤ r.1 ∧ r.1 ≤ 1024 ∧ r.2 ≤ 1024) ∧ ((g.df ≤ r.1 ∧ r.1 + r.2 ≤ g.df + g.dn) ∨ il = true) := by
  unfold okR
  simp [and_assoc]
theorem placed_split (g : Geo) (rs : List Rn) : ∀ k, k ≤ rs.length → placedTo g rs k = ((rs.take k).all (inDt g) && apTo rs k)
  | 0, _ => by simp [placedTo, apTo]
  | k + 1, h => by
    have hk : k < rs.length := h
    unfold placedTo apTo
    rw [placed_split g rs k (by omega), List.take_succ_eq_append_getElem hk, List.all_append, getD_lt hk]
    simp only [List.all_cons, List.all_nil, Bool.and_true]
    generalize (rs.take k).all (inDt g) = a
    generalize (rs.take k).all (apartQ rs[k]) = b
    generalize apTo rs k = c
    cases a <;> cases b <;> cases c <;> cases inDt g rs[k] <;> rfl
theorem all_same {α : Type} {p q : α → Bool} : ∀ {l : List α}, (∀ x ∈ l, p x = q x) → l.all p = l.all q
  | [], _ => rfl
  | x :: l, h => by
    rw [List.all_cons, List.all_cons, h x (List.mem_cons_self ..), all_same (l := l) (fun y hy => h y (List.mem_cons_of_mem _ hy))]
/-- What both ask of the numbers. -/
def CN (g : Geo) (n : NodeN) (rs : List Rn) : Prop := (1 ≤ n.t ∧ n.t ≤ 3) ∧ (1 ≤ n.l ∧ n.l ≤ 200) ∧ 0 ≤ n.s ∧ (n.t ≠ 2 → n.s ≤ 4096) ∧ (n.t = 2 → n.s ≤ g.b) ∧ (n.t = 3 → 1 ≤ n.s ∧ n.s ≤ 400) ∧ rs.length ≤ 4
theorem good_b {g : Geo} (hg : g.good = true) : g.b ≤ 1024 := by
  obtain ⟨hIn, _⟩ := (Geo.good_iff g).1 hg
  exact hIn.2.1
theorem good_cn {g : Geo} {n : NodeN} {rs : List Rn} (hg : g.good = true) (ht : n.t ≠ 0) (h : goodN g n rs = true) : CN g n rs := by
  have hb := good_b hg
  unfold goodN at h
  rw [hg, if_neg ht] at h
  simp only [Bool.and_eq_true, inB, decide_eq_true_eq, Bool.true_and] at h
  obtain ⟨⟨⟨⟨⟨h1, h2⟩, h3⟩, h4⟩, _⟩, _⟩ := h
  unfold sizedB inB at h3
  unfold CN
  split at h3
  · simp at h3; omega
  · split at h3
    · simp at h3
      split at h3 <;> omega
    · simp at h3; omega
theorem good_form {g : Geo} {n : NodeN} {rs : List Rn} (hg : g.good = true) (h : CN g n rs) : goodN g n rs = (rs.all (okR g (isLost g n rs)) && apTo rs rs.length && (sumR rs == needsN n)) := by
  have hb := good_b hg
  obtain ⟨k1, k2, k3, k4, k5, k6, k7, k8, k9, k10⟩ := geo_nums hg
  obtain ⟨h1, h2, h3, h4, h5, h6, h7⟩ := h
  have hs : sizedB g n = true := by
    unfold sizedB inB
    by_cases e1 : n.t = 1
    · rw [if_pos e1]; simp; omega
    · rw [if_neg e1]
      by_cases e2 : n.t = 2
      · rw [if_pos e2]
        simp
        have := h5 e2
        split <;> omega
      · rw [if_neg e2]; simp; omega
  have ht : n.t ≠ 0 := by omega
  unfold goodN
  rw [hg, if_neg ht, hs, decide_eq_true h7]
  have e1 : inB n.t 1 3 = true := by simp [inB]; omega
  have e2 : inB n.l 1 200 = true := by simp [inB]; omega
  rw [e1, e2]
  simp only [Bool.true_and, Bool.and_true]
  congr 1
  unfold placedB
  cases hl : isLost g n rs with
  | true =>
    unfold isLost at hl
    rw [Bool.and_eq_true] at hl
    have e := eq_of_beq hl.2
    subst e
    have : okR g true (g.lf, g.n) = true := by
      rw [okR_iff]
      exact ⟨by simp only; omega, .inr rfl⟩
    simp [this, apTo]
  | false =>
    rw [placed_split g rs _ (Nat.le_refl _), List.take_length, Bool.false_or]
    congr 1
    refine all_same fun r _ => ?_
    rw [Bool.eq_iff_iff, inDt_iff, okR_iff]
    simp only [Bool.false_eq_true, or_false]
    omega
theorem ok_small {g : Geo} {il : Bool} {rs : List Rn} (h : rs.all (okR g il) = true) : RnSm rs := by
  intro r hr
  rw [List.all_eq_true] at h
  have := (okR_iff g il r).1 (h r hr)
  omega
theorem ok_take_bad {g : Geo} {il : Bool} {rs : List Rn} {k : Nat} (hk : k < rs.length) (h : okR g il rs[k] = false) : rs.all (okR g il) = false := by
  rw [List.all_eq_false]
  exact ⟨rs[k], List.getElem_mem hk, by rw [h]; simp⟩
theorem ok_take_next {g : Geo} {il : Bool} {rs : List Rn} {k : Nat} (hk : k < rs.length) (h0 : (rs.take k).all (okR g il) = true) (h : okR g il rs[k] = true) : (rs.take (k + 1)).all (okR g il) = true := by
  rw [List.take_succ_eq_append_getElem hk, List.all_append, h0]
  simp [h]
end Go.Proofs.Ytgkojedgamglgaa
