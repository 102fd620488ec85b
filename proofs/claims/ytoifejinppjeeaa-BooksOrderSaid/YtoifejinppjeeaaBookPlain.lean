/- What a book's calls do to a memory, and tell of it. Plain laws; no program in sight. -/
import Derived.Test.YtoifejinppjeeaaSpanFrame
import Derived.Test.YtoifejinppjeeaaRedoGet
import Derived.Test.YtoifejinppjeeaaCntPush
namespace Go.Proofs.Ytoifejinppjeeaa
open Go.RowKit
set_option linter.unusedVariables false
set_option linter.unusedSimpArgs false
def bkV (m : Nat) (f n c : Int) : Value := .agg #[.pointer (some ⟨m, 0, none⟩), .int .i64 f, .int .i64 n, .int .i64 c]
/-- A record's words, none where it has too many writes. -/
def recX (num : BitVec 64) (ws : List (Int × BitVec 64)) : List (BitVec 64) := if 400 < ws.length then [] else recW num ws
theorem recX_len (num : BitVec 64) (ws : List (Int × BitVec 64)) : (recX num ws).length ≤ 803 := by
  unfold recX recW
  split
  · exact Nat.zero_le _
  · split
    · exact Nat.zero_le _
    · rw [List.length_append, recL_len]; simp; omega
def AM.keepB (a : AM) (f n : Int) (num : BitVec 64) (ws : List (Int × BitVec 64)) : AM × Int :=
  if (recX num ws).length = 0 ∨ 8 * n - 8 < ((recX num ws).length : Int) then (a, 1)
  else if (a.word f n 0).2 ≠ 0 then (a, (a.word f n 0).2)
  else if (a.word f n 0).1 ≠ 0#64 then (a, 15)
  else if (a.push f n 8 (recX num ws)).2 ≠ 0 then a.push f n 8 (recX num ws)
  else (a.push f n 8 (recX num ws)).1.push f n 0 [num]
/-- What a book's words tell. -/
def readR (l : List (BitVec 64)) : Option (BitVec 64 × List (Int × BitVec 64)) :=
  if l.length ≤ 8 ∨ l.getD 0 0#64 = 0#64 then none
  else match getR (l.drop 8) with
    | none => none
    | some r => if r.1 = l.getD 0 0#64 then some r else none
def rtell (l : List (BitVec 64)) : BitVec 64 × List (Int × BitVec 64) := (readR l).getD (0#64, [])
theorem readR_zero {l : List (BitVec 64)} (h : l.getD 0 0#64 = 0#64) : readR l = none := by unfold readR; rw [if_pos (.inr h)]
theorem readR_few {l : List (BitVec 64)} (h : l.length ≤ 8) : readR l = none := by unfold readR; rw [if_pos (.inl h)]
/-- A mark, and behind it the record: it is read. -/
theorem readR_rec {l rest : List (BitVec 64)} {num : BitVec 64} {ws : List (Int × BitVec 64)} (h0 : l.getD 0 0#64 = num) (hd : l.drop 8 = recW num ws ++ rest) (hw : recW num ws ≠ []) (hn : ws.length ≤ 400) : readR l = some (num, ws) := by
  have hc : ¬ (num = 0#64 ∨ ws.any badW = true) := fun h => hw (by unfold recW; rw [if_pos h])
  have hz : num ≠ 0#64 := fun h => hc (.inl h)
  have hb : ws.any badW = false := by
    cases h : ws.any badW with
    | false => rfl
    | true => exact absurd (.inr h) hc
  have hl : ¬ l.length ≤ 8 := fun h => by
    have e : (l.drop 8).length = 0 := by rw [List.length_drop]; omega
    rw [hd, List.length_append] at e
    exact hw (List.length_eq_zero_iff.1 (by omega))
  have hg : getR (l.drop 8) = some (num, ws) := by
    rw [hd]
    unfold recW
    rw [if_neg hc]
    exact getR_back num ws rest hn hz hb
  unfold readR
  rw [if_neg (by rw [h0]; exact fun h => h.elim hl hz), hg]
  simp only
  rw [if_pos h0.symm]
theorem below_drew {B : Nat} {a w : World} (h : Below B a w) (n : Nat) : Below B a (w.drewN n) := h.trans ((Drawn.some_ w n).below B)
/-- Writes that can be read do not lie in a result's own two cells. -/
theorem RdW.two {w : World} {S : Nat} {T : TypeId} {B : Option Addr} {ws : List (Int × BitVec 64)} (h : RdW w B ws) (hS : w.heap[S]? = some (.cells #[.int .u64 0, .slice none 0 0] T (0, 0))) (n : Nat) (v1 v2 : Value) :
    RdW (((w.drewN n).setCell ⟨S, 0, none⟩ v1).setCell ⟨S, 1, none⟩ v2) B ws := by
  rcases h with h | ⟨b, off, rfl, hc⟩
  · exact .inl h
  by_cases hw : ws = []
  · exact .inl hw
  have hne : b ≠ S := by
    rintro rfl
    obtain ⟨h1, _⟩ := hc 0 (List.length_pos_iff.2 hw)
    have hx := Lib.cell_of_heap hS (off + 0 * 2)
    rw [h1] at hx
    generalize off + 0 * 2 = i at hx
    match i with
    | 0 => simp at hx
    | 1 => simp at hx
    | i + 2 => simp at hx
  refine .inr ⟨b, off, rfl, fun k hk => ?_⟩
  have hb : (((w.drewN n).setCell ⟨S, 0, none⟩ v1).setCell ⟨S, 1, none⟩ v2).heap[b]? = w.heap[b]? :=
    (Below.heap_setCell _ _ _ _ (by simpa using hne)).trans (Below.heap_setCell _ _ _ _ (by simpa using hne))
  obtain ⟨h1, h2⟩ := hc k hk
  exact ⟨(World.cell?_of_block hb).trans h1, (World.cell?_of_block hb).trans h2⟩
/-- In terms of what Get tells of the words behind the mark. -/
theorem rdGet_sum (l : List (BitVec 64)) (h1 : ¬ l.length ≤ 8) (h2 : l.getD 0 0#64 ≠ 0#64) :
    ((getR (l.drop 8)).isSome = false → readR l = none) ∧ ((getR (l.drop 8)).isSome = true → (gtell (l.drop 8)).1 ≠ l.getD 0 0#64 → readR l = none) ∧ ((getR (l.drop 8)).isSome = true → (gtell (l.drop 8)).1 = l.getD 0 0#64 → readR l = some (gtell (l.drop 8))) := by
  have e : readR l = match getR (l.drop 8) with | none => none | some r => if r.1 = l.getD 0 0#64 then some r else none := by
    unfold readR
    rw [if_neg (fun h => h.elim h1 h2)]
  rw [e]
  cases h : getR (l.drop 8) with
  | none => exact ⟨fun _ => rfl, (fun h => by cases h), (fun h => by cases h)⟩
  | some r =>
    have eg : gtell (l.drop 8) = r := by unfold gtell; rw [h]; rfl
    rw [eg]
    exact ⟨fun h => (by cases h), fun _ hne => if_neg hne, fun _ he => if_pos he⟩
end Go.Proofs.Ytoifejinppjeeaa
