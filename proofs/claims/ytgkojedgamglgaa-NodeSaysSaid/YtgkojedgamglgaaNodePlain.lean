/- A node's words of chapter 8, in plain Lean. No condition. -/
import Derived.Test.YtgkojedgamglgaaSealPlain2
import Derived.Test.YtgkojedgamglgaaRuns
namespace Go.Proofs.Ytgkojedgamglgaa
set_option linter.unusedVariables false
set_option linter.unusedSimpArgs false
def inB (n a b : Int) : Bool := decide (a ≤ n) && decide (n ≤ b)
def nfreeB (n : NodeN) (rs : List Rn) : Bool := decide (n.t = 0) && decide (n.l = 0) && decide (n.s = 0) && decide (rs.length = 0)
def badR (r : Rn) : Bool := !inB r.1 0 2147483648 || !inB r.2 1 2147483648
def fitsB (n : NodeN) (rs : List Rn) : Bool :=
  if n.t = 0 then nfreeB n rs else inB n.t 1 3 && inB n.l 0 16777215 && inB n.s 0 1099511627776 && decide (rs.length ≤ 4) && !(rs.any badR)
def runW (r : Rn) : BitVec 64 := BitVec.ofInt 64 r.1 ||| BitVec.ofInt 64 r.2 <<< 32
def headN (n : NodeN) : BitVec 64 := BitVec.ofInt 64 n.t ||| BitVec.ofInt 64 n.l <<< 8
/-- The sealed words, of which the first k runs have been laid. -/
def nodeK (n : NodeN) (rs : List Rn) (k : Nat) : List (BitVec 64) := headN n :: BitVec.ofInt 64 n.s :: ((rs.take k).map runW ++ List.replicate (5 - k) 0#64)
def nodeB (n : NodeN) (rs : List Rn) : List (BitVec 64) := nodeK n rs rs.length
def nodeW (n : NodeN) (rs : List Rn) : List (BitVec 64) :=
  if fitsB n rs = true then (if n.t = 0 then List.replicate 8 0#64 else nodeB n rs ++ [sealOf (nodeB n rs)]) else []
theorem nodeK_len (n : NodeN) (rs : List Rn) (k : Nat) (hk : k ≤ rs.length) (h4 : rs.length ≤ 4) : (nodeK n rs k).length = 7 := by
  unfold nodeK
  simp only [List.length_cons, List.length_append, List.length_map, List.length_take, List.length_replicate]
  omega
theorem nodeB_len (n : NodeN) (rs : List Rn) (h4 : rs.length ≤ 4) : (nodeB n rs).length = 7 := nodeK_len n rs _ (Nat.le_refl _) h4
theorem nodeK_set (n : NodeN) (rs : List Rn) (k : Nat) (hk : k < rs.length) (h4 : rs.length ≤ 4) : (nodeK n rs k ++ [0#64]).set (2 + k) (runW rs[k]) = nodeK n rs (k + 1) ++ [0#64] := by
  have hl := nodeK_len n rs k (by omega) h4
  rw [List.set_append_left _ _ (by rw [hl]; omega)]
  congr 1
  unfold nodeK
  rw [show 2 + k = k + 1 + 1 by omega, List.set_cons_succ, List.set_cons_succ]
  congr 2
  rw [List.take_succ_eq_append_getElem hk, List.map_append, List.append_assoc]
  rw [List.set_append_right _ _ (by simp; omega), List.length_map, List.length_take, Nat.min_eq_left (by omega), Nat.sub_self]
  obtain ⟨m, hm⟩ : ∃ m, 5 - k = m + 1 := ⟨4 - k, by omega⟩
  rw [hm, List.replicate_succ, List.set_cons_zero, show 5 - (k + 1) = m by omega]
  rfl
theorem fits_four {n : NodeN} {rs : List Rn} (h : fitsB n rs = true) : rs.length ≤ 4 := by
  unfold fitsB at h
  split at h
  · simp [nfreeB] at h
    rw [h.2]; simp
  · simp at h
    exact h.1.2
theorem nodeW_len (n : NodeN) (rs : List Rn) : (nodeW n rs).length = if fitsB n rs = true then 8 else 0 := by
  unfold nodeW
  by_cases h : fitsB n rs = true
  · rw [if_pos h, if_pos h]
    split
    · rfl
    · rw [List.length_append, nodeB_len n rs (fits_four h)]; rfl
  · rw [if_neg h, if_neg h]; rfl
end Go.Proofs.Ytgkojedgamglgaa
