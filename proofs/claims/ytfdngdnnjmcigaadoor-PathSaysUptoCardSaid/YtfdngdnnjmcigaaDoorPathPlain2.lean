/- Chapter 16: what is put together is told again; what is clean stays. No program in sight. -/
import Derived.Test.YtfdngdnnjmcigaaDoorPathPlain
namespace Go.Proofs.YtfdngdnnjmcigaaDoor
open Go.RowKit
set_option linter.unusedVariables false
set_option linter.unusedSimpArgs false
theorem joinB_size (P : List ByteArray) : (joinB P).size = (joinC P).length := by
  show (joinC P).toArray.size = _
  simp
theorem splitE_join (P : List ByteArray) (h0 : P ≠ []) (hs : (joinC P).length ≤ 400) (hp : ∀ p ∈ P, okP p = true ∧ keepP p = true) : splitE (joinB P) = 0 ∧ splitL (joinB P) = P := by
  have h1 : partsB (joinB P) = P := by
    unfold partsB
    rw [pieces_join P h0 (fun p h => ok_noslash p (hp p h).1), List.filter_cons]
    rw [if_neg (by unfold keepP; rw [ByteArray.toList_eq]; simp)]
    exact List.filter_eq_self.2 (fun p h => (hp p h).2)
  have h2 : ¬ (joinB P).toList = [] := by
    rw [ByteArray.toList_eq]
    cases P with
    | nil => exact absurd rfl h0
    | cons p P => simp [joinB, joinC]
  have e1 : splitE (joinB P) = 0 := by
    unfold splitE
    rw [if_neg h2, if_neg (by rw [joinB_size]; omega), h1, if_pos (List.all_eq_true.2 (fun p h => (hp p h).1))]
  exact ⟨e1, by unfold splitL; rw [if_pos e1, h1]⟩
theorem cleanF_id (l : List ByteArray) : ∀ acc : List ByteArray, (∀ p ∈ l, p.toList ≠ [46, 46]) → l.foldl cleanS acc = acc ++ l := by
  induction l with
  | nil => intro acc _; simp
  | cons p l ih =>
    intro acc h
    rw [List.foldl_cons, show cleanS acc p = acc ++ [p] by unfold cleanS; rw [if_neg (h p (List.mem_cons_self ..))], ih _ (fun q hq => h q (List.mem_cons_of_mem _ hq))]
    simp
theorem cleanF_nodots (l : List ByteArray) : ∀ acc : List ByteArray, (∀ p ∈ acc, p.toList ≠ [46, 46]) → ∀ p ∈ l.foldl cleanS acc, p.toList ≠ [46, 46] := by
  induction l with
  | nil => intro acc h; exact h
  | cons p l ih =>
    intro acc h
    rw [List.foldl_cons]
    refine ih _ (fun q hq => ?_)
    unfold cleanS at hq
    split at hq
    · exact h q ((List.dropLast_sublist _).subset hq)
    · rename_i hne
      rcases List.mem_append.1 hq with hq | hq
      · exact h q hq
      · rw [List.mem_singleton.1 hq]; exact hne
theorem joinC_sub {a b : List ByteArray} (h : a.Sublist b) : (joinC a).length ≤ (joinC b).length := by
  induction h with
  | slnil => exact Nat.le_refl _
  | cons x _ ih => simp only [joinC, List.flatMap_cons, List.length_append] at ih ⊢; omega
  | cons_cons x _ ih => simp only [joinC, List.flatMap_cons, List.length_append] at ih ⊢; omega
theorem cleanF_tot (l : List ByteArray) : ∀ acc : List ByteArray, (joinC (l.foldl cleanS acc)).length ≤ (joinC acc).length + (joinC l).length := by
  induction l with
  | nil => intro acc; simp
  | cons p l ih =>
    intro acc
    rw [List.foldl_cons]
    have h1 := ih (cleanS acc p)
    have h2 : (joinC (cleanS acc p)).length ≤ (joinC acc).length + (joinC [p]).length := by
      unfold cleanS
      split
      · have := joinC_sub (List.dropLast_sublist acc); omega
      · simp [joinC, List.flatMap_append]
    have h3 : (joinC (p :: l)).length = (joinC [p]).length + (joinC l).length := by simp [joinC]; omega
    omega
theorem cutC_tot : ∀ l : List UInt8, ((cutC l).map (fun x => x.length + 1)).sum = l.length + 1
  | [] => rfl
  | b :: l => by
    have ih := cutC_tot l
    unfold cutC
    split
    · simp only [List.map_cons, List.sum_cons, List.length_nil, List.length_cons]; omega
    · cases hc : cutC l with
      | nil => exact absurd hc (cutC_ne l)
      | cons x t =>
        rw [hc] at ih
        simp only [List.headD_cons, List.tail_cons, List.map_cons, List.sum_cons, List.length_cons] at ih ⊢
        omega
theorem joinC_tot (P : List ByteArray) : (joinC P).length = ((P.map (·.data.toList)).map (fun x => x.length + 1)).sum := by
  induction P with
  | nil => rfl
  | cons p P ih => 
    have h1 : (joinC (p :: P)).length = p.data.toList.length + 1 + (joinC P).length := by simp [joinC]; omega
    rw [h1, ih]
    simp
theorem clean_tot (s : ByteArray) : (joinC (cleanF (splitL s))).length ≤ s.size + 1 := by
  have h1 := cleanF_tot (splitL s) []
  have h2 : (joinC (splitL s)).length ≤ (joinC (pieces s 47)).length := by
    unfold splitL
    split
    · exact joinC_sub List.filter_sublist
    · simp [joinC]
  have h3 := joinC_tot (pieces s 47)
  rw [pieces_data, cutC_tot] at h3
  have h4 : s.data.toList.length = s.size := by rw [Array.length_toList]; rfl
  have h5 : (joinC ([] : List ByteArray)).length = 0 := rfl
  unfold cleanF
  omega
/-- what is clean -/
theorem clean_law (s : ByteArray) (hs : s.size ≤ 399) (he : splitE s = 0) (h0 : cleanF (splitL s) ≠ []) :
    splitE (cleanB s) = 0 ∧ splitL (cleanB s) = cleanF (splitL s) ∧ cleanB (cleanB s) = cleanB s ∧ cleanB s = joinB (cleanF (splitL s)) ∧ (∀ p ∈ cleanF (splitL s), p.toList ≠ [46, 46] ∧ p.toList ≠ [46] ∧ p.toList ≠ []) := by
  have e1 : cleanB s = joinB (cleanF (splitL s)) := by unfold cleanB; rw [if_pos he, if_neg h0]
  have hok : ∀ p ∈ cleanF (splitL s), okP p = true ∧ keepP p = true := fun p hp => by
    rcases cleanF_mem (splitL s) [] p hp with h | h
    · simp at h
    · exact splitL_ok s p h
  have hnd : ∀ p ∈ cleanF (splitL s), p.toList ≠ [46, 46] := cleanF_nodots (splitL s) [] (by simp)
  have ht := clean_tot s
  have h1 := splitE_join (cleanF (splitL s)) h0 (by omega) hok
  have h2 : cleanF (cleanF (splitL s)) = cleanF (splitL s) := by
    show (cleanF (splitL s)).foldl cleanS [] = _
    rw [cleanF_id _ [] hnd, List.nil_append]
  rw [e1]
  refine ⟨h1.1, h1.2, ?_, rfl, fun p hp => ⟨hnd p hp, ?_, ?_⟩⟩
  · show (if splitE _ = 0 then (if cleanF (splitL _) = [] then _ else joinB (cleanF (splitL _))) else _) = _
    rw [if_pos h1.1, h1.2, h2, if_neg h0]
  · intro e
    have := (hok p hp).2
    unfold keepP at this
    rw [e] at this
    simp at this
  · intro e
    have := (hok p hp).2
    unfold keepP at this
    rw [e] at this
    simp at this
theorem slash_law : splitE ⟨#[47]⟩ = 0 ∧ splitL ⟨#[47]⟩ = [] ∧ cleanB ⟨#[47]⟩ = ⟨#[47]⟩ := by
  have h1 := pieces_data ⟨#[47]⟩
  have h2 : cutC (⟨#[47]⟩ : ByteArray).data.toList = [[], []] := by decide
  rw [h2] at h1
  have h3 : partsB ⟨#[47]⟩ = [] := by
    unfold partsB
    rw [List.filter_eq_nil_iff]
    intro p hp
    have h4 : p.data.toList ∈ ([[], []] : List (List UInt8)) := by rw [← h1]; exact List.mem_map_of_mem hp
    have h5 : p.data.toList = [] := by simpa using h4
    unfold keepP
    rw [ByteArray.toList_eq, h5]
    simp
  have h6 : ¬ (⟨#[47]⟩ : ByteArray).toList = [] := by rw [ByteArray.toList_eq]; simp
  have e1 : splitE ⟨#[47]⟩ = 0 := by
    unfold splitE
    rw [if_neg h6, if_neg (by decide), h3]
    rfl
  have e2 : splitL ⟨#[47]⟩ = [] := by unfold splitL; rw [if_pos e1, h3]
  exact ⟨e1, e2, by unfold cleanB; rw [if_pos e1, e2]; rfl⟩
/-- all that the walk asks -/
theorem cleans_law (s : ByteArray) (hs : s.size ≤ 399) (he : splitE s = 0) :
    (cleanB s).toList ≠ [] ∧ splitE (cleanB s) = 0 ∧ cleanB (cleanB s) = cleanB s ∧ ((splitL (cleanB s) = [] ∧ cleanB s = ⟨#[47]⟩) ∨ (splitL (cleanB s) ≠ [] ∧ joinB (splitL (cleanB s)) = cleanB s)) ∧
      (∀ p ∈ splitL (cleanB s), p.toList ≠ [46, 46] ∧ p.toList ≠ [46] ∧ p.toList ≠ []) ∧ (splitL (cleanB s)).length ≤ 401 ∧ (joinC (splitL (cleanB s))).length ≤ 401 := by
  by_cases h0 : cleanF (splitL s) = []
  · have e1 : cleanB s = ⟨#[47]⟩ := by unfold cleanB; rw [if_pos he, if_pos h0]
    obtain ⟨a, b, c⟩ := slash_law
    rw [e1, b, a, c]
    refine ⟨by rw [ByteArray.toList_eq]; simp, rfl, rfl, .inl ⟨rfl, rfl⟩, by simp, by simp, by simp [joinC]⟩
  · obtain ⟨a, b, c, d, e⟩ := clean_law s hs he h0
    have hb := clean_bound s
    have ht := clean_tot s
    rw [b, c, a]
    refine ⟨?_, rfl, rfl, .inr ⟨h0, d.symm⟩, e, hb.1, by omega⟩
    rw [d, ByteArray.toList_eq]
    cases hq : cleanF (splitL s) with
    | nil => exact absurd hq h0
    | cons p P => simp [joinB, joinC]
theorem cleans_no (s : ByteArray) (he : ¬ splitE s = 0) : cleanB s = ⟨#[]⟩ := by unfold cleanB; rw [if_neg he]
end Go.Proofs.YtfdngdnnjmcigaaDoor
