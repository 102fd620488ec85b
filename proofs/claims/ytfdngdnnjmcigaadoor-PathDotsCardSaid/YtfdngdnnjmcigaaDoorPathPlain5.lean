/- Chapter 16: a dot more, a slash more change nothing; two dots take one away. No program in sight. -/
import Derived.Test.YtfdngdnnjmcigaaDoorPathPlain3
namespace Go.Proofs.YtfdngdnnjmcigaaDoor
open Go.RowKit
set_option linter.unusedVariables false
set_option linter.unusedSimpArgs false
theorem bytes_inj : ∀ (a b : List ByteArray), a.map (·.data.toList) = b.map (·.data.toList) → a = b := by
  intro a
  induction a with
  | nil => intro b h; cases b with
    | nil => rfl
    | cons x b => simp at h
  | cons x a ih => intro b h; cases b with
    | nil => simp at h
    | cons y b =>
      simp only [List.map_cons, List.cons.injEq] at h
      have e : x = y := by
        cases x; cases y
        congr 1
        exact Array.ext' h.1
      rw [e, ih b h.2]
theorem keep_empty : keepP ⟨#[]⟩ = false := by unfold keepP; rw [ByteArray.toList_eq]; rfl
theorem slash_data (P : List ByteArray) : ((⟨#[47]⟩ : ByteArray) ++ joinB P).data.toList = 47 :: joinC P := by
  rw [ByteArray.data_append]; simp [joinB]
theorem parts_slash (P : List ByteArray) (hp : ∀ p ∈ P, (47 : UInt8) ∉ p.data.toList) : partsB ((⟨#[47]⟩ : ByteArray) ++ joinB P) = P.filter keepP := by
  have h1 := pieces_data ((⟨#[47]⟩ : ByteArray) ++ joinB P)
  rw [slash_data, cutC, if_pos rfl] at h1
  by_cases h0 : P = []
  · subst h0
    have h2 : pieces ((⟨#[47]⟩ : ByteArray) ++ joinB []) 47 = [⟨#[]⟩, ⟨#[]⟩] := bytes_inj _ _ (by rw [h1]; rfl)
    unfold partsB
    rw [h2]
    simp [keep_empty]
  · rw [cutC_join P h0 hp] at h1
    have h2 : pieces ((⟨#[47]⟩ : ByteArray) ++ joinB P) 47 = ⟨#[]⟩ :: ⟨#[]⟩ :: P := bytes_inj _ _ (by rw [h1]; rfl)
    unfold partsB
    rw [h2]
    simp [keep_empty]
theorem clean_slash (P : List ByteArray) (hs : (joinC P).length ≤ 399) (hp : ∀ p ∈ P, (47 : UInt8) ∉ p.data.toList) (hok : ∀ p ∈ P, keepP p = true → okP p = true) :
    cleanB ((⟨#[47]⟩ : ByteArray) ++ joinB P) = if cleanF (P.filter keepP) = [] then ⟨#[47]⟩ else joinB (cleanF (P.filter keepP)) := by
  have h1 := parts_slash P hp
  have h2 : ¬ ((⟨#[47]⟩ : ByteArray) ++ joinB P).toList = [] := by rw [ByteArray.toList_eq, slash_data]; simp
  have h3 : ¬ 400 < ((⟨#[47]⟩ : ByteArray) ++ joinB P).size := by
    have : ((⟨#[47]⟩ : ByteArray) ++ joinB P).size = ((⟨#[47]⟩ : ByteArray) ++ joinB P).data.toList.length := by rw [Array.length_toList]; rfl
    rw [this, slash_data, List.length_cons]; omega
  have e1 : splitE ((⟨#[47]⟩ : ByteArray) ++ joinB P) = 0 := by
    unfold splitE
    rw [if_neg h2, if_neg h3, h1, if_pos (List.all_eq_true.2 fun p hq => hok p (List.mem_filter.1 hq).1 (List.mem_filter.1 hq).2)]
  have e2 : splitL ((⟨#[47]⟩ : ByteArray) ++ joinB P) = P.filter keepP := by unfold splitL; rw [if_pos e1, h1]
  unfold cleanB
  rw [if_pos e1, e2]
theorem joinC_len_app (a b : List ByteArray) : (joinC (a ++ b)).length = (joinC a).length + (joinC b).length := by unfold joinC; rw [List.flatMap_append, List.length_append]
/-- what the law lays at a place -/
def insT (l : List ByteArray) (t : Nat) (x : List ByteArray) (i : Nat) : List ByteArray := if i ≤ t then l.take i else l.take t ++ x ++ (l.take i).drop t
theorem insT_zero (l : List ByteArray) (t : Nat) (x : List ByteArray) : insT l t x 0 = [] := by unfold insT; rw [if_pos (Nat.zero_le _)]; rfl
theorem insT_at (l : List ByteArray) (t : Nat) (x : List ByteArray) (ht : t < l.length) : insT l t x (t + 1) = (insT l t x t ++ x) ++ [l[t]] := by
  unfold insT
  rw [if_neg (by omega), if_pos (Nat.le_refl _), List.take_succ_eq_append_getElem ht, List.drop_append_of_le_length (by simp; omega), List.drop_take]
  simp
theorem insT_off (l : List ByteArray) (t : Nat) (x : List ByteArray) (i : Nat) (hi : i < l.length) (hne : i ≠ t) : insT l t x (i + 1) = insT l t x i ++ [l[i]] := by
  unfold insT
  by_cases h : i ≤ t
  · rw [if_pos (by omega), if_pos h, List.take_succ_eq_append_getElem hi]
  · rw [if_neg (by omega), if_neg h, List.take_succ_eq_append_getElem hi, List.drop_append_of_le_length (by simp; omega)]
    simp
theorem insT_end_at (l : List ByteArray) (x : List ByteArray) : insT l l.length x (l.length + 1) = insT l l.length x l.length ++ x := by
  unfold insT
  have e : l.take (l.length + 1) = l := List.take_of_length_le (by omega)
  rw [if_neg (by omega), if_pos (Nat.le_refl _), e, List.take_length, List.drop_length]
  simp
theorem insT_end_off (l : List ByteArray) (t : Nat) (x : List ByteArray) (h : t < l.length) : insT l t x (l.length + 1) = insT l t x l.length := by
  unfold insT
  have e : l.take (l.length + 1) = l := List.take_of_length_le (by omega)
  rw [if_neg (by omega), if_neg (by omega), e, List.take_length]
theorem insT_all (l : List ByteArray) (t : Nat) (x : List ByteArray) (h : t ≤ l.length) : insT l t x (l.length + 1) = l.take t ++ x ++ l.drop t := by
  unfold insT
  have e : l.take (l.length + 1) = l := List.take_of_length_le (by omega)
  rw [if_neg (by omega), e]
theorem insT_len (l : List ByteArray) (t : Nat) (x : List ByteArray) (i : Nat) : (insT l t x i).length ≤ l.length + x.length + l.length := by
  unfold insT
  split
  · rw [List.length_take]; omega
  · simp only [List.length_append, List.length_take, List.length_drop]; omega
theorem name_keep (p : ByteArray) (h : nameOk p = true) : keepP p = true ∧ okP p = true ∧ (47 : UInt8) ∉ p.data.toList ∧ p.toList ≠ [46, 46] ∧ p.size ≤ 40 := by
  have hf := nameOk_facts p h
  exact ⟨by unfold keepP; simp [hf.1, hf.2.2.1], by unfold okP; rw [h, Bool.or_true], hf.2.2.2.2, hf.2.2.2.1, hf.2.1⟩
theorem dots_size (l : List ByteArray) (h6 : l.length ≤ 6) (hok : ∀ p ∈ l, nameOk p = true) (t : Nat) (x : List ByteArray) (hx : (joinC x).length ≤ 44) : (joinC (l.take t ++ x ++ l.drop t)).length ≤ 290 := by
  have hb := joinC_bound l (fun p hp => (name_keep p (hok p hp)).2.2.2.2)
  have e : (joinC (l.take t ++ x ++ l.drop t)).length = (joinC l).length + (joinC x).length := by
    rw [joinC_len_app, joinC_len_app]
    have : (joinC l).length = (joinC (l.take t)).length + (joinC (l.drop t)).length := by rw [← joinC_len_app, List.take_append_drop]
    omega
  omega
/-- What the law says. -/
theorem dots_law (l : List ByteArray) (h6 : l.length ≤ 6) (hok : ∀ p ∈ l, nameOk p = true) (t : Nat) (up : ByteArray) (hup : nameOk up = true) :
    cleanB ((⟨#[47]⟩ : ByteArray) ++ joinB (l.take t ++ [⟨#[46]⟩, ⟨#[]⟩] ++ l.drop t)) = cleanB ((⟨#[47]⟩ : ByteArray) ++ joinB l) ∧
    cleanB ((⟨#[47]⟩ : ByteArray) ++ joinB (l.take t ++ [up, ⟨#[46, 46]⟩] ++ l.drop t)) = cleanB ((⟨#[47]⟩ : ByteArray) ++ joinB l) ∧
    (joinC l).length ≤ 290 ∧ (joinC (l.take t ++ [⟨#[46]⟩, ⟨#[]⟩] ++ l.drop t)).length ≤ 290 ∧ (joinC (l.take t ++ [up, ⟨#[46, 46]⟩] ++ l.drop t)).length ≤ 290 := by
  have hn := fun p hp => name_keep p (hok p hp)
  have hu := name_keep up hup
  have hfl : ∀ m : List ByteArray, (∀ p ∈ m, p ∈ l) → m.filter keepP = m := fun m hm => List.filter_eq_self.2 fun p hp => (hn p (hm p hp)).1
  have ht : ∀ p ∈ l.take t, p ∈ l := fun p hp => List.mem_of_mem_take hp
  have hd : ∀ p ∈ l.drop t, p ∈ l := fun p hp => List.mem_of_mem_drop hp
  have us : up.data.toList.length = up.size := by rw [Array.length_toList]; rfl
  have s1 := dots_size l h6 hok t [⟨#[46]⟩, ⟨#[]⟩] (by simp [joinC])
  have s2 := dots_size l h6 hok t [up, ⟨#[46, 46]⟩] (by have := hu.2.2.2.2; simp [joinC]; omega)
  have s0 : (joinC l).length ≤ 290 := by
    have hb := joinC_bound l (fun p hp => (hn p hp).2.2.2.2)
    omega
  have k1 : keepP ⟨#[46]⟩ = false := by unfold keepP; rw [ByteArray.toList_eq]; rfl
  have k2 : keepP ⟨#[46, 46]⟩ = true := by unfold keepP; rw [ByteArray.toList_eq]; rfl
  have k3 : okP ⟨#[46, 46]⟩ = true := by unfold okP; rw [ByteArray.toList_eq]; rfl
  have hid : cleanF l = l := by
    show l.foldl cleanS [] = l
    rw [cleanF_id _ [] (fun p hp => (hn p hp).2.2.2.1), List.nil_append]
  have c0 := clean_slash l (by omega) (fun p hp => (hn p hp).2.2.1) (fun p hp _ => (hn p hp).2.1)
  have m1 : ∀ p ∈ l.take t ++ [⟨#[46]⟩, ⟨#[]⟩] ++ l.drop t, p ∈ l ∨ p = ⟨#[46]⟩ ∨ p = ⟨#[]⟩ := by
    intro p hp
    simp only [List.mem_append, List.mem_cons, List.not_mem_nil, or_false] at hp
    rcases hp with (hp | hp) | hp
    · exact .inl (ht p hp)
    · exact .inr hp
    · exact .inl (hd p hp)
  have m2 : ∀ p ∈ l.take t ++ [up, ⟨#[46, 46]⟩] ++ l.drop t, p ∈ l ∨ p = up ∨ p = ⟨#[46, 46]⟩ := by
    intro p hp
    simp only [List.mem_append, List.mem_cons, List.not_mem_nil, or_false] at hp
    rcases hp with (hp | hp) | hp
    · exact .inl (ht p hp)
    · exact .inr hp
    · exact .inl (hd p hp)
  have c1 := clean_slash (l.take t ++ [⟨#[46]⟩, ⟨#[]⟩] ++ l.drop t) (by omega)
    (fun p hp => by
      rcases m1 p hp with h | rfl | rfl
      · exact (hn p h).2.2.1
      · decide
      · decide)
    (fun p hp hk => by
      rcases m1 p hp with h | rfl | rfl
      · exact (hn p h).2.1
      · rw [k1] at hk; cases hk
      · rw [keep_empty] at hk; cases hk)
  have c2 := clean_slash (l.take t ++ [up, ⟨#[46, 46]⟩] ++ l.drop t) (by omega)
    (fun p hp => by
      rcases m2 p hp with h | rfl | rfl
      · exact (hn p h).2.2.1
      · exact hu.2.2.1
      · decide)
    (fun p hp hk => by
      rcases m2 p hp with h | rfl | rfl
      · exact (hn p h).2.1
      · exact hu.2.1
      · exact k3)
  have f0 : l.filter keepP = l := hfl l fun p hp => hp
  have f1 : List.filter keepP (l.take t ++ [⟨#[46]⟩, ⟨#[]⟩] ++ l.drop t) = l := by
    rw [List.filter_append, List.filter_append, hfl _ ht, hfl _ hd]
    simp [k1, keep_empty]
  have f2 : (l.take t ++ [up, ⟨#[46, 46]⟩] ++ l.drop t).filter keepP = l.take t ++ [up, ⟨#[46, 46]⟩] ++ l.drop t := by
    rw [List.filter_append, List.filter_append, hfl _ ht, hfl _ hd]
    simp [k2, hu.1]
  have g2 : cleanF (l.take t ++ [up, ⟨#[46, 46]⟩] ++ l.drop t) = l := by
    show (l.take t ++ [up, ⟨#[46, 46]⟩] ++ l.drop t).foldl cleanS [] = l
    rw [List.foldl_append, List.foldl_append, cleanF_id _ [] (fun p hp => (hn p (ht p hp)).2.2.2.1), List.nil_append]
    have e1 : [up, (⟨#[46, 46]⟩ : ByteArray)].foldl cleanS (l.take t) = l.take t := by
      simp only [List.foldl_cons, List.foldl_nil]
      rw [show cleanS (l.take t) up = l.take t ++ [up] by unfold cleanS; rw [if_neg hu.2.2.2.1]]
      unfold cleanS
      rw [if_pos (by rw [ByteArray.toList_eq]), List.dropLast_concat]
    rw [e1, cleanF_id _ _ (fun p hp => (hn p (hd p hp)).2.2.2.1), List.take_append_drop]
  rw [f0, hid] at c0
  rw [f1, hid] at c1
  rw [f2, g2] at c2
  exact ⟨c1.trans c0.symm, c2.trans c0.symm, s0, s1, s2⟩
end Go.Proofs.YtfdngdnnjmcigaaDoor
