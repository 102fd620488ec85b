/- Plain laws of the statement LockPlays: what the law itself reckons. No program in sight. -/
import Derived.Test.YtfdngdnnjmcigaaLpPlain
namespace Go.Proofs.Ytfdngdnnjmcigaa
open Go.RowKit Go.Maps
set_option linter.unusedVariables false
set_option linter.unusedSimpArgs false
def ArgC (H : Nat → Sl) (p : Nat) (L : List Wt) : Prop := (H p).2.1 ≠ [] ∨ L = [] ∨ risesB L = false
open Classical in
noncomputable def ifA (A : Prop) (v : Int) : Int := if A then 1 else v
theorem ifA_pos {A : Prop} {v : Int} (h : A) : ifA A v = 1 := if_pos h
theorem ifA_neg {A : Prop} {v : Int} (h : ¬ A) : ifA A v = v := if_neg h
noncomputable def argV (H : Nat → Sl) (p : Nat) (L : List Wt) (k : Nat) : Int := ifA ((H p).2.1 ≠ [] ∨ L = [] ∨ risesB (L.take k) = false) 0
theorem rises_one (L : List Wt) : risesB (L.take 1) = true := by
  cases L with
  | nil => rfl
  | cons x r => simp [risesB]
theorem argV_one_bad {H : Nat → Sl} {p : Nat} {L : List Wt} (h : (H p).2.1 ≠ [] ∨ L = []) : argV H p L 1 = 1 := ifA_pos (by rcases h with h | h; exact .inl h; exact .inr (.inl h))
theorem argV_one_ok {H : Nat → Sl} {p : Nat} {L : List Wt} (h1 : (H p).2.1 = []) (h2 : L ≠ []) : argV H p L 1 = 0 := ifA_neg (by
  rintro (h | h | h)
  · exact h h1
  · exact h2 h
  · rw [rises_one] at h; cases h)
theorem rises_take (L : List Wt) (j : Nat) (h : j + 1 < L.length) : risesB (L.take (j + 1 + 1)) = true ↔ risesB (L.take (j + 1)) = true ∧ L[j].1 < L[j + 1].1 := by
  rw [risesB_iff, risesB_iff]
  simp only [List.length_take, List.getElem_take]
  constructor
  · intro hh
    exact ⟨fun k hk => hh k (by omega), hh j (by omega)⟩
  · rintro ⟨h1, h2⟩ k hk
    by_cases e : k = j
    · subst e; exact h2
    · exact h1 k (by omega)
theorem argV_bad {H : Nat → Sl} {p : Nat} {L : List Wt} {j : Nat} (h : j + 1 < L.length) (hb : ¬ L[j].1 < L[j + 1].1) : argV H p L (j + 1 + 1) = 1 := ifA_pos (.inr (.inr (by
  cases hr : risesB (L.take (j + 1 + 1)) with
  | false => rfl
  | true => exact absurd ((rises_take L j h).1 hr).2 hb)))
theorem argV_same {H : Nat → Sl} {p : Nat} {L : List Wt} {j : Nat} (h : j + 1 < L.length) (hb : L[j].1 < L[j + 1].1) : argV H p L (j + 1 + 1) = argV H p L (j + 1) := by
  unfold argV
  have e : risesB (L.take (j + 1 + 1)) = risesB (L.take (j + 1)) := by
    rw [Bool.eq_iff_iff, rises_take L j h]
    exact ⟨fun h => h.1, fun h => ⟨h, hb⟩⟩
  rw [e]
theorem argV_end {H : Nat → Sl} {p : Nat} {L : List Wt} {k : Nat} (h : L.length ≤ k) : argV H p L k = ifA (ArgC H p L) 0 := by
  unfold argV ArgC
  rw [List.take_of_length_le h]
open Classical in
noncomputable def clV (C : Prop) : Int := if C then 15 else 0
theorem clV_pos {C : Prop} (h : C) : clV C = 15 := if_pos h
theorem clV_neg {C : Prop} (h : ¬ C) : clV C = 0 := if_neg h
theorem clV_congr {C D : Prop} (h : C ↔ D) : clV C = clV D := by rw [propext h]
theorem clV_or_pos {C D : Prop} (h : D) : clV (C ∨ D) = 15 := clV_pos (.inr h)
theorem clV_or_neg {C D : Prop} (h : ¬ D) : clV (C ∨ D) = clV C := clV_congr ⟨fun q => q.resolve_right h, .inl⟩
def CTo (H : Nat → Sl) (p : Nat) (L : List Wt) (q : Nat) : Prop := ∃ r, r < q ∧ r ≠ p ∧ ∃ h ∈ (H r).2.1, ∃ x ∈ L, apartB x h = false
def CRow (H : Nat → Sl) (p : Nat) (L : List Wt) (q k : Nat) : Prop := q ≠ p ∧ ∃ h ∈ (H q).2.1.take k, ∃ x ∈ L, apartB x h = false
def CX (p : Nat) (L : List Wt) (q : Nat) (y : Wt) (i : Nat) : Prop := q ≠ p ∧ ∃ x ∈ L.take i, apartB x y = false
section
variable {H : Nat → Sl} {p q k i : Nat} {L : List Wt} {y : Wt}
theorem cTo_zero : ¬ CTo H p L 0 := by rintro ⟨r, hr, _⟩; omega
theorem cRow_zero : ¬ CRow H p L q 0 := by rintro ⟨_, h, hh, _⟩; simp at hh
theorem cX_zero : ¬ CX p L q y 0 := by rintro ⟨_, h, hh, _⟩; simp at hh
theorem cX_same (h : q = p) : ¬ CX p L q y i := fun hc => hc.1 h
theorem cTo_succ : CTo H p L (q + 1) ↔ CTo H p L q ∨ CRow H p L q (H q).2.1.length := by
  unfold CTo CRow
  rw [List.take_length]
  constructor
  · rintro ⟨r, hr, hne, hh⟩
    by_cases e : r = q
    · subst e; exact .inr ⟨hne, hh⟩
    · exact .inl ⟨r, by omega, hne, hh⟩
  · rintro (⟨r, hr, hh⟩ | ⟨hne, hh⟩)
    · exact ⟨r, by omega, hh⟩
    · exact ⟨q, by omega, hne, hh⟩
theorem cRow_succ (hk : k < (H q).2.1.length) : CRow H p L q (k + 1) ↔ CRow H p L q k ∨ CX p L q (H q).2.1[k] L.length := by
  unfold CRow CX
  rw [List.take_length, List.take_succ_eq_append_getElem hk]
  constructor
  · rintro ⟨hne, h, hh, r⟩
    rcases List.mem_append.1 hh with hh | hh
    · exact .inl ⟨hne, h, hh, r⟩
    · rw [List.mem_singleton.1 hh] at r; exact .inr ⟨hne, r⟩
  · rintro (⟨hne, h, hh, r⟩ | ⟨hne, r⟩)
    · exact ⟨hne, h, List.mem_append.2 (.inl hh), r⟩
    · exact ⟨hne, _, List.mem_append.2 (.inr (List.mem_singleton.2 rfl)), r⟩
theorem cX_succ (hi : i < L.length) (hne : q ≠ p) : CX p L q y (i + 1) ↔ CX p L q y i ∨ apartB L[i] y = false := by
  unfold CX
  rw [List.take_succ_eq_append_getElem hi]
  constructor
  · rintro ⟨hne, h, hh, r⟩
    rcases List.mem_append.1 hh with hh | hh
    · exact .inl ⟨hne, h, hh, r⟩
    · rw [List.mem_singleton.1 hh] at r; exact .inr r
  · rintro (⟨hne, h, hh, r⟩ | r)
    · exact ⟨hne, h, List.mem_append.2 (.inl hh), r⟩
    · exact ⟨hne, _, List.mem_append.2 (.inr (List.mem_singleton.2 rfl)), r⟩
end
theorem Sm.may {T : Int → Sl} {H : Nat → Sl} (h : Sm T H) {p : Nat} (hp : p < 6) (L : List Wt) : mayV T (p : Int) L = ifA (ArgC H p L) (clV (CTo H p L 6)) := by
  have e : Clash T (p : Int) L ↔ CTo H p L 6 := (h.clash p L).trans Iff.rfl
  have ea : ((T (p : Int)).2.1 ≠ [] ∨ L = [] ∨ risesB L = false) ↔ ArgC H p L := by unfold ArgC; rw [h.same p hp]
  by_cases hA : ArgC H p L
  · rw [ifA_pos hA]; exact mayV_arg (ea.2 hA)
  · rw [ifA_neg hA]
    by_cases hC : CTo H p L 6
    · rw [clV_pos hC]; exact mayV_busy (fun h => hA (ea.1 h)) (e.2 hC)
    · rw [clV_neg hC]; exact mayV_ok (fun h => hA (ea.1 h)) (fun h => hC (e.1 h))
/-- Who has the key, so far. -/
def hasH (H : Nat → Sl) (key : Int) (p : Nat) : Bool := (H p).2.1.any fun x => x.1 == key
def eL (H : Nat → Sl) (key : Int) (q : Nat) : List Int := ((List.range q).filter (hasH H key)).map fun (p : Nat) => (p : Int)
def fL (H : Nat → Sl) (key : Int) (q k : Nat) : List Int := (((H q).2.1.take k).filter fun x => x.1 == key).map fun _ => (q : Int)
theorem rises_all {L : List Wt} (h : risesB L = true) : ∀ i j, (hj : j < L.length) → (hi : i < j) → L[i].1 < L[j].1 := by
  rw [risesB_iff] at h
  intro i j
  induction j with
  | zero => intro _ hi; omega
  | succ j ih =>
    intro hj hi
    have h1 := h j hj
    by_cases e : i = j
    · subst e; exact h1
    · exact Int.lt_trans (ih (by omega) (by omega)) h1
theorem filt_one {L : List Wt} (key : Int) (h : ∀ i j, (hj : j < L.length) → (hi : i < j) → L[i].1 < L[j].1) : (L.filter fun x => x.1 == key).map (fun _ => (0 : Nat)) = if (L.any fun x => x.1 == key) = true then [0] else [] := by
  induction L with
  | nil => rfl
  | cons x r ih =>
    have hr : ∀ i j, (hj : j < r.length) → (hi : i < j) → r[i].1 < r[j].1 := fun i j hj hi => h (i + 1) (j + 1) (by simpa using hj) (by omega)
    by_cases e : x.1 = key
    · have hn : r.filter (fun x => x.1 == key) = [] := by
        rw [List.filter_eq_nil_iff]
        intro y hy hb
        obtain ⟨j, hj, rfl⟩ := List.getElem_of_mem hy
        have := h 0 (j + 1) (by simpa using hj) (by omega)
        simp only [List.getElem_cons_zero, List.getElem_cons_succ] at this
        have := beq_iff_eq.1 hb
        omega
      rw [List.filter_cons, if_pos (by simpa using e), hn, if_pos (by simp [e])]
      rfl
    · rw [List.filter_cons, if_neg (by simpa using e), ih hr]
      simp [e]
theorem fL_end {H : Nat → Sl} {key : Int} {q : Nat} (h : risesB (H q).2.1 = true) : fL H key q (H q).2.1.length = if hasH H key q = true then [(q : Int)] else [] := by
  unfold fL hasH
  rw [List.take_length]
  have h1 := congrArg (List.map fun _ => (q : Int)) (filt_one key (rises_all h))
  rw [List.map_map] at h1
  have h2 : (fun _ : Wt => (q : Int)) = (fun _ : Nat => (q : Int)) ∘ (fun _ : Wt => (0 : Nat)) := rfl
  rw [h2, h1]
  split <;> rfl
theorem eL_succ {H : Nat → Sl} {key : Int} {q : Nat} (h : risesB (H q).2.1 = true) : eL H key (q + 1) = eL H key q ++ fL H key q (H q).2.1.length := by
  rw [fL_end h]
  unfold eL
  rw [List.range_succ, List.filter_append, List.map_append]
  congr 1
  rw [List.filter_cons, List.filter_nil]
  split <;> rfl
theorem fL_succ {H : Nat → Sl} {key : Int} {q k : Nat} (hk : k < (H q).2.1.length) : fL H key q (k + 1) = fL H key q k ++ (if ((H q).2.1[k].1 == key) = true then [(q : Int)] else []) := by
  unfold fL
  rw [List.take_succ_eq_append_getElem hk, List.filter_append, List.map_append]
  congr 1
  rw [List.filter_cons, List.filter_nil]
  split <;> rfl
theorem fL_len (H : Nat → Sl) (key : Int) (q k : Nat) : (fL H key q k).length ≤ (H q).2.1.length := by
  unfold fL
  rw [List.length_map]
  exact Nat.le_trans (List.length_filter_le _ _) (by rw [List.length_take]; omega)
theorem eL_len (H : Nat → Sl) (key : Int) (q : Nat) : (eL H key q).length ≤ q := by
  unfold eL
  rw [List.length_map]
  exact Nat.le_trans (List.length_filter_le _ _) (by simp)
theorem eL_sorted (H : Nat → Sl) (key : Int) (q : Nat) : (eL H key q).Pairwise (· < ·) := by
  unfold eL
  rw [List.pairwise_map]
  exact (List.pairwise_lt_range.filter _).imp fun h => by omega
theorem eL_mem (H : Nat → Sl) (key : Int) (z : Int) : z ∈ eL H key 6 ↔ ∃ p : Nat, p < 6 ∧ z = (p : Int) ∧ hasH H key p = true := by
  unfold eL
  rw [List.mem_map]
  constructor
  · rintro ⟨p, hp, rfl⟩
    rw [List.mem_filter, List.mem_range] at hp
    exact ⟨p, hp.1, rfl, hp.2⟩
  · rintro ⟨p, hp, rfl, hh⟩
    exact ⟨p, List.mem_filter.2 ⟨List.mem_range.2 hp, hh⟩, rfl⟩
theorem Sm.who {T : Int → Sl} {H : Nat → Sl} (h : Sm T H) (key : Int) {rs : List Int} (hs : rs.Pairwise (· < ·)) (hm : ∀ z, z ∈ rs ↔ In64 z ∧ HasK T key z = true) : rs = eL H key 6 :=
  lt_ext hs (eL_sorted H key 6) fun z => by
    rw [hm z, eL_mem]
    constructor
    · rintro ⟨hz, hh⟩
      by_cases hr : 0 ≤ z ∧ z < 6
      · obtain ⟨p, rfl⟩ : ∃ p : Nat, z = (p : Int) := ⟨z.toNat, by omega⟩
        refine ⟨p, by omega, rfl, ?_⟩
        unfold HasK at hh
        rw [h.same p (by omega)] at hh
        exact hh
      · unfold HasK at hh
        rw [h.out z hz hr] at hh
        cases hh
    · rintro ⟨p, hp, rfl, hh⟩
      refine ⟨by unfold In64; omega, ?_⟩
      unfold HasK
      rw [h.same p hp]
      exact hh
end Go.Proofs.Ytfdngdnnjmcigaa
