/- What eight words tell of a node, in plain Lean. No condition. -/
import Derived.Test.YtgkojedgamglgaaNodePlain
namespace Go.Proofs.Ytgkojedgamglgaa
set_option linter.unusedVariables false
set_option linter.unusedSimpArgs false
def unR (v : BitVec 64) : Rn := ((v &&& 4294967295#64).toInt, (v >>> 32).toInt)
def words4 (xs : List (BitVec 64)) : List (BitVec 64) := (xs.drop 2).take 4
def getR (xs : List (BitVec 64)) : List Rn := ((words4 xs).takeWhile (fun v => v != 0#64)).map unR
def getN (xs : List (BitVec 64)) : NodeN := ⟨(xs.getD 0 0 &&& 255#64).toInt, (xs.getD 0 0 >>> 8).toInt, (xs.getD 1 0).toInt⟩
def nodeOk (xs : List (BitVec 64)) : Bool :=
  decide (xs.length = 8) && decide (xs.getD 0 0 >>> 32 = 0#64) && decide ((xs.getD 1 0).toNat ≤ 1099511627776) && (nodeW (getN xs) (getR xs) == xs)
def tellN (xs : List (BitVec 64)) : NodeN := if nodeOk xs = true then getN xs else ⟨0, 0, 0⟩
def tellR (xs : List (BitVec 64)) : List Rn := if nodeOk xs = true then getR xs else []
theorem takeWhile_stop {α : Type} (p : α → Bool) : ∀ (l : List α) (k : Nat) (hk : k < l.length), (l.take k).all p = true → p l[k] = false → l.takeWhile p = l.take k
  | [], _, hk, _, _ => by simp at hk
  | x :: l, 0, _, _, hn => by rw [List.takeWhile_cons, if_neg (by simpa using hn)]; rfl
  | x :: l, k + 1, hk, ha, hn => by
    simp at ha
    rw [List.takeWhile_cons, if_pos ha.1, takeWhile_stop p l k (by simpa using hk) (by simpa using ha.2) (by simpa using hn)]
    rfl
theorem takeWhile_all {α : Type} (p : α → Bool) : ∀ (l : List α), l.all p = true → l.takeWhile p = l
  | [], _ => rfl
  | x :: l, h => by
    simp at h
    rw [List.takeWhile_cons, if_pos h.1, takeWhile_all p l (by simpa using h.2)]
theorem unR_take (ws : List (BitVec 64)) (k : Nat) (h : k < ws.length) : (ws.take (k + 1)).map unR = (ws.take k).map unR ++ [unR ws[k]] := by
  rw [List.take_succ_eq_append_getElem h, List.map_append]; rfl
theorem all_take_succ {α : Type} (p : α → Bool) (ws : List α) (k : Nat) (h : k < ws.length) : (ws.take (k + 1)).all p = ((ws.take k).all p && p ws[k]) := by
  rw [List.take_succ_eq_append_getElem h, List.all_append]; simp
theorem node_eight {α : Type} {xs : List α} (h : xs.length = 8) : ∃ x0 x1 x2 x3 x4 x5 x6 x7, xs = [x0, x1, x2, x3, x4, x5, x6, x7] := by
  match xs, h with
  | [x0, x1, x2, x3, x4, x5, x6, x7], _ => exact ⟨x0, x1, x2, x3, x4, x5, x6, x7, rfl⟩
theorem words4_len {xs : List (BitVec 64)} (h : xs.length = 8) : (words4 xs).length = 4 := by unfold words4; simp [h]
end Go.Proofs.Ytgkojedgamglgaa
