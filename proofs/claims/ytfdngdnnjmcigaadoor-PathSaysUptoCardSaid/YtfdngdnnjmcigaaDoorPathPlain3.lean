/- Chapter 16: names put together are told apart again. No program in sight. -/
import Derived.Test.YtfdngdnnjmcigaaDoorPathPlain2
namespace Go.Proofs.YtfdngdnnjmcigaaDoor
open Go.RowKit
set_option linter.unusedVariables false
set_option linter.unusedSimpArgs false
theorem nameOk_facts (p : ByteArray) (h : nameOk p = true) : p.toList ≠ [] ∧ p.size ≤ 40 ∧ p.toList ≠ [46] ∧ p.toList ≠ [46, 46] ∧ (47 : UInt8) ∉ p.data.toList := by
  have h5 := ok_noslash p (by unfold okP; rw [h, Bool.or_true])
  unfold nameOk at h
  simp only [Bool.and_eq_true, decide_eq_true_eq, Bool.not_eq_true', beq_eq_false_iff_ne] at h
  exact ⟨h.1, by have := h.2.1; omega, h.2.2.1, h.2.2.2.1, h5⟩
theorem suffix_no (a x : List UInt8) (h0 : x ≠ []) (h1 : x ≠ [46]) (h2 : (47 : UInt8) ∉ x) : ([47, 46] : List UInt8).isSuffixOf (a ++ x) = false := by
  rw [Bool.eq_false_iff]
  intro h
  obtain ⟨t, ht⟩ := List.isSuffixOf_iff_suffix.1 h
  have hr := congrArg List.reverse ht
  simp only [List.reverse_append, List.reverse_cons, List.reverse_nil, List.nil_append, List.cons_append] at hr
  cases hx : x.reverse with
  | nil => exact h0 (by simpa using hx)
  | cons u r =>
    rw [hx] at hr
    simp only [List.cons_append, List.cons.injEq] at hr
    cases r with
    | nil =>
      have : x = [u] := by have h3 := congrArg List.reverse hx; simpa using h3
      exact h1 (by rw [this, ← hr.1])
    | cons v r =>
      simp only [List.cons_append, List.cons.injEq] at hr
      apply h2
      have : v ∈ x.reverse := by rw [hx]; simp
      rw [hr.2.1]
      exact List.mem_reverse.1 this
theorem parts_law (l : List ByteArray) (hl : l ≠ []) (h9 : l.length ≤ 9) (hok : ∀ p ∈ l, nameOk p = true) :
    splitE (joinB l) = 0 ∧ splitL (joinB l) = l ∧ cleanB (joinB l) = joinB l ∧ (joinB l).toList ≠ [46] ∧ Lib.hasSuffix (joinB l).data.toList [47, 46] = false ∧ (joinC l).length ≤ 369 ∧ (∀ p ∈ l, p.toList ≠ [46, 46]) := by
  have hf := fun p hp => nameOk_facts p (hok p hp)
  have hb := joinC_bound l (fun p hp => (hf p hp).2.1)
  have h1 := splitE_join l hl (by omega) (fun p hp => ⟨by unfold okP; rw [hok p hp, Bool.or_true], by unfold keepP; simp [(hf p hp).1, (hf p hp).2.2.1]⟩)
  have h2 : cleanF l = l := by
    show l.foldl cleanS [] = l
    rw [cleanF_id _ [] (fun p hp => (hf p hp).2.2.2.1), List.nil_append]
  have hj : (joinB l).data.toList = joinC l := by simp [joinB]
  refine ⟨h1.1, h1.2, ?_, ?_, ?_, by omega, fun p hp => (hf p hp).2.2.2.1⟩
  · show (if splitE _ = 0 then (if cleanF (splitL _) = [] then _ else joinB (cleanF (splitL _))) else _) = _
    rw [if_pos h1.1, h1.2, h2, if_neg hl]
  · rw [ByteArray.toList_eq, hj]
    cases l with
    | nil => exact absurd rfl hl
    | cons p P => simp [joinC]
  · rw [hj]
    obtain ⟨a, x, rfl⟩ : ∃ a x, l = a ++ [x] := ⟨l.dropLast, l.getLast hl, (List.dropLast_concat_getLast hl).symm⟩
    have hx := hf x (by simp)
    have e : joinC (a ++ [x]) = (joinC a ++ [47]) ++ x.data.toList := by simp [joinC]
    rw [e]
    exact suffix_no _ _ (by rw [← ByteArray.toList_eq]; exact hx.1) (by rw [← ByteArray.toList_eq]; exact hx.2.2.1) hx.2.2.2.2
end Go.Proofs.YtfdngdnnjmcigaaDoor
