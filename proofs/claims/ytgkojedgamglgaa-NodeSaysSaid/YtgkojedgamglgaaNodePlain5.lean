/- What the reference reads of a node's words, in plain Lean. No condition. -/
import Derived.Test.YtgkojedgamglgaaNodePlain4
namespace Go.Proofs.Ytgkojedgamglgaa
set_option linter.unusedVariables false
set_option linter.unusedSimpArgs false
def rgetR (xs : List (BitVec 64)) : List Rn := ((words4 xs).filter (fun v => v != 0#64)).map unR
def rgetN (xs : List (BitVec 64)) : NodeN := ⟨(xs.getD 0 0 &&& 255#64).toInt, ((xs.getD 0 0 >>> 8) &&& 16777215#64).toInt, (xs.getD 1 0).toInt⟩
theorem and24 (x : BitVec 64) : (x &&& 16777215#64).toNat = x.toNat % 16777216 := by
  rw [BitVec.toNat_and]
  exact Nat.and_two_pow_sub_one_eq_mod x.toNat 24
theorem rgetR_node {n : NodeN} {rs : List Rn} (h : fitsB n rs = true) (ht : n.t ≠ 0) : rgetR (nodeW n rs) = rs := by
  obtain ⟨_, _, _, h4, hr⟩ := fits_parts h ht
  have e : words4 (nodeW n rs) = rs.map runW ++ List.replicate (4 - rs.length) 0#64 := by
    rw [nodeW_cons h ht]
    unfold words4
    rw [List.drop_succ_cons, List.drop_succ_cons, List.drop_zero, List.append_assoc, List.take_append, List.length_map, List.take_of_length_le (by rw [List.length_map]; exact h4), List.take_append, List.take_replicate, List.length_replicate]
    rw [show min (4 - rs.length) (5 - rs.length) = 4 - rs.length by omega, show 4 - rs.length - (5 - rs.length) = 0 by omega, List.take_zero, List.append_nil]
  unfold rgetR
  have e2 : (List.replicate (4 - rs.length) 0#64).filter (fun v => v != 0#64) = [] := by
    rw [List.filter_eq_nil_iff]
    intro v hv
    have := List.eq_of_mem_replicate hv
    simp [this]
  have e3 : (rs.map runW).filter (fun v => v != 0#64) = rs.map runW := by
    rw [List.filter_eq_self]
    intro v hv
    rw [List.mem_map] at hv
    obtain ⟨r, hm, rfl⟩ := hv
    simp [runW_ne (hr r hm)]
  rw [e, List.filter_append, e2, e3, List.append_nil, List.map_map]
  conv => rhs; rw [← List.map_id rs]
  apply List.map_congr_left
  intro r hm
  exact unR_runW (hr r hm)
theorem rgetN_node {n : NodeN} {rs : List Rn} (h : fitsB n rs = true) (ht : n.t ≠ 0) : rgetN (nodeW n rs) = n := by
  obtain ⟨h1, h2, h3, h4, hr⟩ := fits_parts h ht
  have e := headN_toNat h1 h2
  rw [nodeW_cons h ht]
  unfold rgetN
  simp only [List.getD_cons_zero, List.getD_cons_succ]
  have k1 : (headN n &&& 255#64).toNat = n.t.toNat := by rw [and255, e]; omega
  have k2 : ((headN n >>> 8) &&& 16777215#64).toNat = n.l.toNat := by rw [and24, shr_toNat, e]; omega
  have k3 : (BitVec.ofInt 64 n.s).toNat = n.s.toNat := by rw [BitVec.toNat_ofInt]; omega
  rw [toInt_of_nat k1 (by omega), toInt_of_nat k2 (by omega), toInt_of_nat k3 (by omega)]
  obtain ⟨t, l, s⟩ := n
  simp only at *
  congr 1 <;> omega
/-- The reference reads just what the program reads. -/
theorem rget_same {xs : List (BitVec 64)} (h8 : xs.length = 8) : nodeW (rgetN xs) (rgetR xs) = xs ↔ nodeOk xs = true := by
  constructor
  · intro h
    have hf : fitsB (rgetN xs) (rgetR xs) = true := by
      by_cases hf : fitsB (rgetN xs) (rgetR xs) = true
      · exact hf
      · have := nodeW_len (rgetN xs) (rgetR xs)
        rw [if_neg hf, h] at this
        omega
    by_cases ht : (rgetN xs).t = 0
    · have e : xs = List.replicate 8 0#64 := by rw [← h]; unfold nodeW; rw [if_pos hf, if_pos ht]
      rw [e]
      decide
    · rw [← h]
      exact nodeOk_back hf ht
  · intro h
    have h2 : nodeW (getN xs) (getR xs) = xs := by
      unfold nodeOk at h
      simp only [Bool.and_eq_true] at h
      exact eq_of_beq h.2
    have hf : fitsB (getN xs) (getR xs) = true := by
      by_cases hf : fitsB (getN xs) (getR xs) = true
      · exact hf
      · have := nodeW_len (getN xs) (getR xs)
        rw [if_neg hf, h2] at this
        omega
    by_cases ht : (getN xs).t = 0
    · have e : xs = List.replicate 8 0#64 := by
        rw [← h2]; unfold nodeW; rw [if_pos hf, if_pos ht]
      rw [e]
      decide
    · have a := rgetN_node hf ht
      have b := rgetR_node hf ht
      rw [h2] at a b
      rw [a, b, h2]
theorem rget_tell {xs : List (BitVec 64)} (h8 : xs.length = 8) (h : nodeOk xs = true) : rgetN xs = tellN xs ∧ rgetR xs = tellR xs := by
  have h1 := (rget_same h8).2 h
  have hf : fitsB (rgetN xs) (rgetR xs) = true := by
    by_cases hf : fitsB (rgetN xs) (rgetR xs) = true
    · exact hf
    · have := nodeW_len (rgetN xs) (rgetR xs)
      rw [if_neg hf, h1] at this
      omega
  obtain ⟨_, b, c⟩ := node_back hf
  rw [h1] at b c
  exact ⟨b.symm, c.symm⟩
end Go.Proofs.Ytgkojedgamglgaa
