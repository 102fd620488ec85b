/- A slot in the reference's words, in plain Lean. No condition. -/
import Derived.Test.YtgkojedgamglgaaSlotPlain2
import Derived.Test.YtgkojedgamglgaaWordPlain
import Derived.Test.YtgkojedgamglgaaStr
namespace Go.Proofs.Ytgkojedgamglgaa
set_option linter.unusedVariables false
set_option linter.unusedSimpArgs false
theorem index_two : ∀ (l : List UInt8) (c : UInt8), (c ∈ l → 0 ≤ Lib.indexByte l c) ∧ (c ∉ l → Lib.indexByte l c = -1)
  | [], c => ⟨fun h => by simp at h, fun _ => rfl⟩
  | b :: l, c => by
    obtain ⟨h1, h2⟩ := index_two l c
    unfold Lib.indexByte
    by_cases hb : b = c
    · subst hb
      simp
    · have hb2 : (b == c) = false := by rw [beq_eq_false_iff_ne]; exact hb
      rw [hb2]
      by_cases hm : c ∈ l
      · have := h1 hm
        have hne : (Lib.indexByte l c == -1) = false := by rw [beq_eq_false_iff_ne]; omega
        rw [hne]
        simp only [Bool.false_eq_true, if_false]
        exact ⟨fun _ => by omega, fun h => absurd (List.mem_cons_of_mem _ hm) h⟩
      · have := h2 hm
        rw [this]
        exact ⟨fun h => by
          rcases List.mem_cons.1 h with e | e
          · exact absurd e.symm hb
          · exact absurd e hm, fun _ => by simp⟩
theorem hasC_eq (s : ByteArray) (c : UInt8) : hasC s c = s.data.toList.contains c := by
  unfold hasC
  obtain ⟨h1, h2⟩ := index_two s.data.toList c
  by_cases h : c ∈ s.data.toList
  · rw [decide_eq_true (h1 h)]
    exact (List.contains_iff_mem.2 h).symm
  · rw [decide_eq_false (by rw [h2 h]; omega)]
    symm
    rw [Bool.eq_false_iff]
    intro hc
    exact h (List.contains_iff_mem.1 hc)
/-- The first k bytes of a name may be. -/
def okTo (s : ByteArray) (k : Nat) : Bool := (s.data.toList.take k).all fun b => b != 0 && b != 47
theorem okTo_succ (s : ByteArray) (k : Nat) (h : k < s.size) : okTo s (k + 1) = (okTo s k && (s[k] != 0 && s[k] != 47)) := by
  unfold okTo
  have hl : k < s.data.toList.length := h
  rw [List.take_succ_eq_append_getElem hl, List.all_append]
  simp
  rfl
theorem named_ok (s : ByteArray) : namedB s = (okTo s s.size && (decide (1 ≤ s.size) && decide (s.size ≤ 40) && !(s.toList == [46]) && !(s.toList == [46, 46]))) := by
  have e : okTo s s.size = (!hasC s 47 && !hasC s 0) := by
    unfold okTo
    rw [List.take_of_length_le (show s.data.toList.length ≤ s.size from Nat.le_refl _), hasC_eq, hasC_eq]
    generalize s.data.toList = l
    induction l with
    | nil => rfl
    | cons b l ih =>
      rw [List.all_cons, ih, List.contains_cons, List.contains_cons]
      have c1 : (47 == b) = (b == 47) := BEq.comm
      have c2 : (0 == b) = (b == 0) := BEq.comm
      rw [c1, c2]
      simp only [bne]
      cases (b == 0) <;> cases (b == 47) <;> cases l.contains 47 <;> cases l.contains 0 <;> rfl
  unfold namedB
  rw [e]
  cases hasC s 47 <;> cases hasC s 0 <;> simp
/-- A name's forty bytes. -/
def padB (s : ByteArray) : List (BitVec 8) := s.data.toList.map UInt8.toBitVec ++ List.replicate (40 - s.size) 0#8
theorem padB_len (s : ByteArray) (h : s.size ≤ 40) : (padB s).length = 40 := by
  unfold padB
  have : s.data.toList.length = s.size := rfl
  rw [List.length_append, List.length_map, List.length_replicate, this]
  omega
theorem padB_get (s : ByteArray) (i : Nat) (hi : i < 40) : (padB s).getD i 0 = if i < s.size then chB s i else 0#8 := by
  unfold padB
  have hl : s.data.toList.length = s.size := rfl
  rw [List.getD_eq_getElem?_getD]
  by_cases h : i < s.size
  · rw [if_pos h, List.getElem?_append_left (by rw [List.length_map, hl]; exact h), List.getElem?_map]
    unfold chB
    have h2 : i < s.data.size := h
    rw [show s.data.toList[i]? = s.data[i]? by simp, Array.getElem?_eq_getElem h2]
    rfl
  · rw [if_neg h, List.getElem?_append_right (by rw [List.length_map, hl]; omega), List.length_map, hl, List.getElem?_replicate, if_pos (by omega)]
    rfl
theorem byteIn_byteAt (ws : List (BitVec 64)) (i : Nat) (h : i / 8 < ws.length) : byteIn ws i = byteAt ws[i / 8] (i % 8) := by
  unfold byteIn byteAt
  rw [List.getD_eq_getElem?_getD, List.getElem?_eq_getElem h]
  rfl
theorem bytes_padB (s : ByteArray) (h : s.size ≤ 40) : bytesOf (nameK s s.size) = padB s := by
  have hl := nameK_len s s.size
  apply List.ext_getElem
  · rw [length_bytesOf, padB_len s h, hl]
  · intro i h1 h2
    rw [length_bytesOf, hl] at h1
    have e1 := bytesOf_get (nameK s s.size) (i / 8) (by omega) (i % 8) (by omega)
    rw [show 8 * (i / 8) + i % 8 = i by omega, ← byteIn_byteAt _ _ (by omega), byteIn_nameK s s.size h i (by omega)] at e1
    have e2 := padB_get s i (by omega)
    rw [List.getD_eq_getElem?_getD, List.getElem?_eq_getElem (by rw [length_bytesOf, hl]; omega)] at e1
    rw [List.getD_eq_getElem?_getD, List.getElem?_eq_getElem h2] at e2
    simp only [Option.getD_some] at e1 e2
    rw [e1, e2]
theorem words_padB (s : ByteArray) (h : s.size ≤ 40) : wordsOf (padB s) = nameK s s.size := by
  rw [← bytes_padB s h, wordsOf_bytesOf]
/-- What the reference reads as a name. -/
theorem strY_name (xs : List (BitVec 64)) (hx : xs.length = 8) (n : Nat) (hn : n ≤ 40) : strY ((bytesOf ((xs.drop 2).take 5)).take n) = ⟨(nameOf xs n).toArray⟩ := by
  unfold strY strOfNums
  congr 2
  have hl : (bytesOf ((xs.drop 2).take 5)).length = 40 := by rw [length_bytesOf, List.length_take, List.length_drop, hx]; omega
  rw [List.map_map]
  apply List.ext_getElem
  · rw [List.length_map, List.length_take, hl, nameOf_len]; omega
  · intro i h1 h2
    rw [nameOf_len] at h2
    have h5 : i / 8 < ((xs.drop 2).take 5).length := by rw [List.length_take, List.length_drop, hx]; omega
    have e1 := bytesOf_get ((xs.drop 2).take 5) (i / 8) h5 (i % 8) (by omega)
    rw [show 8 * (i / 8) + i % 8 = i by omega, ← byteIn_byteAt _ _ h5, List.getD_eq_getElem?_getD, List.getElem?_eq_getElem (by omega)] at e1
    simp only [Option.getD_some] at e1
    have e3 : byteIn ((xs.drop 2).take 5) i = byteIn (xs.drop 2) i := by
      unfold byteIn
      rw [List.getD_eq_getElem?_getD, List.getD_eq_getElem?_getD, List.getElem?_take_of_lt (by omega)]
    simp only [List.getElem_map, List.getElem_take, Function.comp_apply, nameOf, List.getElem_range]
    rw [e1, e3]
    apply UInt8.toBitVec_inj.1
    generalize byteIn (xs.drop 2) i = y
    apply BitVec.eq_of_toNat_eq
    have := y.isLt
    simp
end Go.Proofs.Ytgkojedgamglgaa
