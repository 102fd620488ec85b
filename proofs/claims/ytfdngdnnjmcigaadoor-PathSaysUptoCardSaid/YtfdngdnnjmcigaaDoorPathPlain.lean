/- Chapter 16 in plain lists: the pieces between slashes. No program in sight. -/
import Derived.Test.YtfdngdnnjmcigaaDoorPath3
namespace Go.Proofs.YtfdngdnnjmcigaaDoor
open Go.RowKit
set_option linter.unusedVariables false
set_option linter.unusedSimpArgs false
def cutC : List UInt8 → List (List UInt8)
  | [] => [[]]
  | b :: l => if b = 47 then [] :: cutC l else (b :: (cutC l).headD []) :: (cutC l).tail
theorem cutC_ne (l : List UInt8) : cutC l ≠ [] := by
  cases l with
  | nil => simp [cutC]
  | cons b l => unfold cutC; split <;> simp
theorem cutC_none : ∀ (l : List UInt8), (47 : UInt8) ∉ l → cutC l = [l]
  | [], _ => rfl
  | b :: l, h => by
    have h1 : b ≠ 47 := fun e => h (e ▸ List.mem_cons_self ..)
    have h2 := cutC_none l (fun e => h (List.mem_cons_of_mem _ e))
    unfold cutC
    rw [if_neg h1, h2]
    rfl
theorem cutC_app : ∀ (p r : List UInt8), (47 : UInt8) ∉ p → cutC (p ++ 47 :: r) = p :: cutC r
  | [], r, _ => by rw [List.nil_append, cutC, if_pos rfl]
  | b :: p, r, h => by
    have h1 : b ≠ 47 := fun e => h (e ▸ List.mem_cons_self ..)
    have h2 := cutC_app p r (fun e => h (List.mem_cons_of_mem _ e))
    rw [List.cons_append, cutC, if_neg h1, h2]
    rfl
theorem indexByte_mem : ∀ (l : List UInt8) (c : UInt8), (0 ≤ Lib.indexByte l c) ↔ c ∈ l
  | [], c => by simp [Lib.indexByte]
  | b :: l, c => by
    have ih := indexByte_mem l c
    have h2 := Lib.indexByte_ge l c
    unfold Lib.indexByte
    by_cases hb : (b == c) = true
    · rw [if_pos hb, beq_iff_eq.1 hb]; simp
    · have hb' : b ≠ c := fun e => hb (beq_iff_eq.2 e)
      rw [if_neg hb]
      by_cases hm : (Lib.indexByte l c == -1) = true
      · rw [if_pos hm]
        have h3 : ¬ c ∈ l := fun e => by have := ih.2 e; rw [beq_iff_eq.1 hm] at this; omega
        simp [h3, Ne.symm hb']
      · rw [if_neg hm]
        have h3 : Lib.indexByte l c ≠ -1 := fun e => hm (beq_iff_eq.2 e)
        have h4 : c ∈ l := ih.1 (by omega)
        simp [h4]; omega
theorem indexByte_cut : ∀ (l : List UInt8), 0 ≤ Lib.indexByte l 47 → cutC l = l.take (Lib.indexByte l 47).toNat :: cutC (l.drop ((Lib.indexByte l 47).toNat + 1)) ∧ l.count 47 = 1 + (l.drop ((Lib.indexByte l 47).toNat + 1)).count 47
  | [], h => by simp [Lib.indexByte] at h
  | b :: l, h => by
    have h2 := Lib.indexByte_ge l 47
    by_cases hb : b = 47
    · subst hb
      rw [show Lib.indexByte (47 :: l) 47 = 0 by simp [Lib.indexByte]]
      refine ⟨by rw [cutC, if_pos rfl]; rfl, ?_⟩
      simp [List.count_cons]; omega
    · have hb' : ¬ (b == (47 : UInt8)) = true := fun e => hb (beq_iff_eq.1 e)
      have e : Lib.indexByte (b :: l) 47 = if Lib.indexByte l 47 == -1 then -1 else Lib.indexByte l 47 + 1 := by
        show (if b == 47 then 0 else _) = _
        rw [if_neg hb']
      rw [e] at h ⊢
      by_cases hm : (Lib.indexByte l 47 == -1) = true
      · rw [if_pos hm] at h; omega
      · rw [if_neg hm]
        have h3 : Lib.indexByte l 47 ≠ -1 := fun e => hm (beq_iff_eq.2 e)
        have ih := indexByte_cut l (by omega)
        have e2 : (Lib.indexByte l 47 + 1).toNat = (Lib.indexByte l 47).toNat + 1 := by omega
        rw [e2]
        refine ⟨by rw [cutC, if_neg hb, ih.1]; rfl, ?_⟩
        rw [List.drop_succ_cons, List.count_cons, ← ih.2]
        simp [hb]
theorem splitK_cut : ∀ (k : Nat) (l : List UInt8), l.count 47 = k → Lib.splitK [47] 0 k l = cutC l
  | 0, l, h => by
    rw [cutC_none l (by rw [← List.count_eq_zero]; exact h)]
    rfl
  | k + 1, l, h => by
    have hm : (47 : UInt8) ∈ l := by rw [← List.count_pos_iff]; omega
    have h0 := (indexByte_mem l 47).2 hm
    have h1 := indexByte_cut l h0
    have hne : ¬ (Lib.index l [47] == -1) = true := fun e => by have := beq_iff_eq.1 e; rw [Lib.index_one] at this; omega
    rw [Lib.splitK, if_neg hne, Lib.index_one, h1.1]
    rw [splitK_cut k _ (by have := h1.2; simp only [List.length_singleton]; omega)]
    rfl
theorem pieces_data (s : ByteArray) : (pieces s 47).map (·.data.toList) = cutC s.data.toList := by
  unfold pieces
  rw [Lib.splitB_data]
  refine splitK_cut _ _ ?_
  show _ = Lib.count s.data.toList [47]
  rw [Lib.count_one]
theorem cutC_join : ∀ (P : List ByteArray), P ≠ [] → (∀ p ∈ P, (47 : UInt8) ∉ p.data.toList) → cutC (joinC P) = [] :: P.map (·.data.toList)
  | [], h, _ => absurd rfl h
  | [p], _, hp => by
    have h1 := hp p (List.mem_cons_self ..)
    rw [show joinC [p] = 47 :: p.data.toList by simp [joinC], cutC, if_pos rfl, cutC_none _ h1]
    rfl
  | p :: q :: P, _, hp => by
    have h1 := hp p (List.mem_cons_self ..)
    have ih := cutC_join (q :: P) (by simp) (fun x hx => hp x (List.mem_cons_of_mem _ hx))
    have e : joinC (p :: q :: P) = 47 :: (p.data.toList ++ joinC (q :: P)) := by simp [joinC]
    have e2 : joinC (q :: P) = 47 :: (q.data.toList ++ joinC P) := by simp [joinC]
    rw [e, cutC, if_pos rfl, e2, cutC_app _ _ h1]
    rw [e2, cutC, if_pos rfl] at ih
    injection ih with _ ih
    rw [ih]
    rfl
theorem pieces_join (P : List ByteArray) (h0 : P ≠ []) (hp : ∀ p ∈ P, (47 : UInt8) ∉ p.data.toList) : pieces (joinB P) 47 = ByteArray.empty :: P := by
  have h1 := pieces_data (joinB P)
  have h2 : (joinB P).data.toList = joinC P := by simp [joinB]
  rw [h2, cutC_join P h0 hp] at h1
  have hinj : ∀ (a b : List ByteArray), a.map (·.data.toList) = b.map (·.data.toList) → a = b := by
    intro a
    induction a with
    | nil => intro b h; cases b with
      | nil => rfl
      | cons x b => simp at h
    | cons x a ih => intro b h; cases b with
      | nil => simp at h
      | cons y b =>
        simp only [List.map_cons, List.cons.injEq] at h
        have e : x = y := by
          cases x; cases y
          congr 1
          exact Array.ext' h.1
        rw [e, ih b h.2]
  exact hinj _ _ (by rw [h1]; rfl)
theorem ok_noslash (p : ByteArray) (h : okP p = true) : (47 : UInt8) ∉ p.data.toList := by
  unfold okP at h
  intro hm
  rcases Bool.or_eq_true _ _ ▸ h with h | h
  · have h1 : p.toList = [46, 46] := beq_iff_eq.1 h
    rw [← ByteArray.toList_eq, h1] at hm
    simp at hm
  · unfold nameOk at h
    simp only [Bool.and_eq_true, decide_eq_true_eq, Bool.not_eq_true', decide_eq_false_iff_not] at h
    exact h.2.2.2.2.1 ((indexByte_mem _ _).2 hm)
end Go.Proofs.YtfdngdnnjmcigaaDoor
