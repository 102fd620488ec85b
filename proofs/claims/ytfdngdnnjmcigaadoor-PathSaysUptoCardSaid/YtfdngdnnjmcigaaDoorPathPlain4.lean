/- Chapter 16's reference in plain lists: what cut tells are the pieces. No program in sight. -/
import Derived.Test.YtfdngdnnjmcigaaDoorPathPlain3
namespace Go.Proofs.YtfdngdnnjmcigaaDoor
open Go.RowKit
set_option linter.unusedVariables false
set_option linter.unusedSimpArgs false
/-- one byte more -/
def stepB (acc : List ByteArray) (b : UInt8) : List ByteArray := if b = 47 then acc ++ [⟨#[]⟩] else acc.dropLast ++ [(acc.getLast?.getD ⟨#[]⟩) ++ ⟨#[b]⟩]
def cutB (l : List UInt8) : List ByteArray := l.foldl stepB [⟨#[]⟩]
theorem cutB_fold : ∀ (l : List UInt8) (acc : List ByteArray) (x : ByteArray), (l.foldl stepB (acc ++ [x])).map (·.data.toList) = acc.map (·.data.toList) ++ (x.data.toList ++ (cutC l).headD []) :: (cutC l).tail
  | [], acc, x => by simp [cutC]
  | b :: l, acc, x => by
    rw [List.foldl_cons]
    by_cases hb : b = 47
    · subst hb
      rw [show stepB (acc ++ [x]) 47 = (acc ++ [x]) ++ [⟨#[]⟩] by unfold stepB; rw [if_pos rfl], cutB_fold l, cutC, if_pos rfl]
      cases hc : cutC l with
      | nil => exact absurd hc (cutC_ne l)
      | cons h t => simp
    · rw [show stepB (acc ++ [x]) b = acc ++ [x ++ ⟨#[b]⟩] by unfold stepB; rw [if_neg hb]; simp, cutB_fold l, cutC, if_neg hb]
      simp [ByteArray.data_append]
theorem cutB_pieces (s : ByteArray) : cutB s.data.toList = pieces s 47 := by
  have h1 := cutB_fold s.data.toList [] ⟨#[]⟩
  have h2 := pieces_data s
  have h3 : (cutB s.data.toList).map (·.data.toList) = (pieces s 47).map (·.data.toList) := by
    rw [h2]
    unfold cutB
    rw [List.nil_append] at h1
    rw [h1]
    cases hc : cutC s.data.toList with
    | nil => exact absurd hc (cutC_ne _)
    | cons h t => simp
  have hinj : ∀ (a b : List ByteArray), a.map (·.data.toList) = b.map (·.data.toList) → a = b := by
    intro a
    induction a with
    | nil => intro b h; cases b with
      | nil => rfl
      | cons x b => simp at h
    | cons x a ih => intro b h; cases b with
      | nil => simp at h
      | cons y b =>
        simp only [List.map_cons, List.cons.injEq] at h
        have e : x = y := by
          cases x; cases y
          congr 1
          exact Array.ext' h.1
        rw [e, ih b h.2]
  exact hinj _ _ h3
theorem cutB_take (s : ByteArray) (k : Nat) (h : k < s.size) : cutB (s.data.toList.take (k + 1)) = stepB (cutB (s.data.toList.take k)) s[k] := by
  have hk : k < s.data.toList.length := h
  rw [List.take_succ_eq_append_getElem hk]
  unfold cutB
  rw [List.foldl_append]
  rfl
end Go.Proofs.YtfdngdnnjmcigaaDoor
