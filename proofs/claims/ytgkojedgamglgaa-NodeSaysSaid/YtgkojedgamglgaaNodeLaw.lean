/- Plain laws of a node's words: written, they are read; one word that is another makes none. No condition. -/
import Derived.Test.YtgkojedgamglgaaNodePlain2
namespace Go.Proofs.Ytgkojedgamglgaa
set_option linter.unusedVariables false
set_option linter.unusedSimpArgs false
theorem pack_toNat {a b i : Nat} (hi : i ≤ 63) (ha : a < 2 ^ i) (hb : b * 2 ^ i < 2 ^ 64) : (BitVec.ofNat 64 a ||| BitVec.ofNat 64 b <<< i).toNat = b * 2 ^ i + a := by
  have h64 : a < 2 ^ 64 := Nat.lt_of_lt_of_le ha (Nat.pow_le_pow_right (by omega) (by omega))
  have hb2 : b < 2 ^ 64 := Nat.lt_of_le_of_lt (Nat.le_mul_of_pos_right b (Nat.two_pow_pos i)) hb
  rw [BitVec.toNat_or, BitVec.toNat_shiftLeft, BitVec.toNat_ofNat, BitVec.toNat_ofNat, Nat.mod_eq_of_lt h64, Nat.mod_eq_of_lt hb2, Nat.shiftLeft_eq, Nat.mod_eq_of_lt hb, Nat.or_comm, ← Nat.shiftLeft_eq, ← Nat.shiftLeft_add_eq_or_of_lt ha, Nat.shiftLeft_eq]
theorem toInt_of_small {x : BitVec 64} (h : x.toNat < 9223372036854775808) : x.toInt = (x.toNat : Int) := by
  rw [BitVec.toInt_eq_toNat_cond]
  split <;> omega
theorem toInt_of_nat {x : BitVec 64} {n : Nat} (h : x.toNat = n) (hn : n < 9223372036854775808) : x.toInt = (n : Int) := by
  rw [toInt_of_small (by omega), h]
theorem and255 (x : BitVec 64) : (x &&& 255#64).toNat = x.toNat % 256 := by
  rw [BitVec.toNat_and]
  exact Nat.and_two_pow_sub_one_eq_mod x.toNat 8
theorem and32 (x : BitVec 64) : (x &&& 4294967295#64).toNat = x.toNat % 4294967296 := by
  rw [BitVec.toNat_and]
  exact Nat.and_two_pow_sub_one_eq_mod x.toNat 32
theorem shr_toNat (x : BitVec 64) (i : Nat) : (x >>> i).toNat = x.toNat / 2 ^ i := by
  rw [BitVec.toNat_ushiftRight, Nat.shiftRight_eq_div_pow]
theorem fits_parts {n : NodeN} {rs : List Rn} (h : fitsB n rs = true) (ht : n.t ≠ 0) :
    (1 ≤ n.t ∧ n.t ≤ 3) ∧ (0 ≤ n.l ∧ n.l ≤ 16777215) ∧ (0 ≤ n.s ∧ n.s ≤ 1099511627776) ∧ rs.length ≤ 4 ∧ ∀ r ∈ rs, (0 ≤ r.1 ∧ r.1 ≤ 2147483648) ∧ (1 ≤ r.2 ∧ r.2 ≤ 2147483648) := by
  unfold fitsB at h
  rw [if_neg ht] at h
  simp only [Bool.and_eq_true, inB, decide_eq_true_eq, Bool.not_eq_true'] at h
  refine ⟨h.1.1.1.1, h.1.1.1.2, h.1.1.2, h.1.2, fun r hr => ?_⟩
  have h2 := List.any_eq_false.1 h.2 r hr
  simp [badR, inB] at h2
  exact ⟨h2.1, h2.2⟩
theorem runW_toNat {r : Rn} (h : (0 ≤ r.1 ∧ r.1 ≤ 2147483648) ∧ (1 ≤ r.2 ∧ r.2 ≤ 2147483648)) : (runW r).toNat = r.2.toNat * 4294967296 + r.1.toNat := by
  obtain ⟨a, b⟩ := r
  simp only at *
  obtain ⟨x, rfl⟩ := Int.eq_ofNat_of_zero_le h.1.1
  obtain ⟨y, rfl⟩ := Int.eq_ofNat_of_zero_le (show 0 ≤ b by omega)
  unfold runW
  simp only
  rw [BitVec.ofInt_natCast, BitVec.ofInt_natCast]
  exact pack_toNat (i := 32) (by omega) (by omega) (by omega)
theorem unR_runW {r : Rn} (h : (0 ≤ r.1 ∧ r.1 ≤ 2147483648) ∧ (1 ≤ r.2 ∧ r.2 ≤ 2147483648)) : unR (runW r) = r := by
  have e := runW_toNat h
  obtain ⟨a, b⟩ := r
  simp only at *
  unfold unR
  have h1 : (runW (a, b) &&& 4294967295#64).toNat = a.toNat := by rw [and32, e]; omega
  have h2 : (runW (a, b) >>> 32).toNat = b.toNat := by rw [shr_toNat, e]; omega
  rw [toInt_of_nat h1 (by omega), toInt_of_nat h2 (by omega)]
  congr 1 <;> omega
theorem runW_ne {r : Rn} (h : (0 ≤ r.1 ∧ r.1 ≤ 2147483648) ∧ (1 ≤ r.2 ∧ r.2 ≤ 2147483648)) : runW r ≠ 0#64 := by
  intro e
  have h2 := runW_toNat h
  rw [e] at h2
  simp at h2
  omega
theorem headN_toNat {n : NodeN} (h1 : 1 ≤ n.t ∧ n.t ≤ 3) (h2 : 0 ≤ n.l ∧ n.l ≤ 16777215) : (headN n).toNat = n.l.toNat * 256 + n.t.toNat := by
  obtain ⟨t, l, s⟩ := n
  simp only at *
  obtain ⟨x, rfl⟩ := Int.eq_ofNat_of_zero_le (show 0 ≤ t by omega)
  obtain ⟨y, rfl⟩ := Int.eq_ofNat_of_zero_le h2.1
  unfold headN
  simp only
  rw [BitVec.ofInt_natCast, BitVec.ofInt_natCast]
  exact pack_toNat (i := 8) (by omega) (by omega) (by omega)
theorem nodeW_cons {n : NodeN} {rs : List Rn} (h : fitsB n rs = true) (ht : n.t ≠ 0) :
    nodeW n rs = headN n :: BitVec.ofInt 64 n.s :: (rs.map runW ++ List.replicate (5 - rs.length) 0#64 ++ [sealOf (nodeB n rs)]) := by
  unfold nodeW
  rw [if_pos h, if_neg ht]
  conv => lhs; lhs; unfold nodeB nodeK
  rw [List.take_length]
  rfl
theorem getR_node {n : NodeN} {rs : List Rn} (h : fitsB n rs = true) (ht : n.t ≠ 0) : getR (nodeW n rs) = rs := by
  obtain ⟨_, _, _, h4, hr⟩ := fits_parts h ht
  have e : words4 (nodeW n rs) = rs.map runW ++ List.replicate (4 - rs.length) 0#64 := by
    rw [nodeW_cons h ht]
    unfold words4
    rw [List.drop_succ_cons, List.drop_succ_cons, List.drop_zero, List.append_assoc, List.take_append, List.length_map, List.take_of_length_le (by rw [List.length_map]; exact h4), List.take_append, List.take_replicate, List.length_replicate]
    rw [show min (4 - rs.length) (5 - rs.length) = 4 - rs.length by omega, show 4 - rs.length - (5 - rs.length) = 0 by omega, List.take_zero, List.append_nil]
  unfold getR
  rw [e, List.takeWhile_append_of_pos (by
    intro v hv
    rw [List.mem_map] at hv
    obtain ⟨r, hm, rfl⟩ := hv
    simp [runW_ne (hr r hm)])]
  have e2 : (List.replicate (4 - rs.length) 0#64).takeWhile (fun v => v != 0#64) = [] := by
    cases 4 - rs.length with
    | zero => rfl
    | succ m => rfl
  rw [e2, List.append_nil, List.map_map]
  conv => rhs; rw [← List.map_id rs]
  apply List.map_congr_left
  intro r hm
  exact unR_runW (hr r hm)
theorem getN_node {n : NodeN} {rs : List Rn} (h : fitsB n rs = true) (ht : n.t ≠ 0) : getN (nodeW n rs) = n := by
  obtain ⟨h1, h2, h3, h4, hr⟩ := fits_parts h ht
  have e := headN_toNat h1 h2
  rw [nodeW_cons h ht]
  unfold getN
  simp only [List.getD_cons_zero, List.getD_cons_succ]
  have k1 : (headN n &&& 255#64).toNat = n.t.toNat := by rw [and255, e]; omega
  have k2 : (headN n >>> 8).toNat = n.l.toNat := by rw [shr_toNat, e]; omega
  have k3 : (BitVec.ofInt 64 n.s).toNat = n.s.toNat := by rw [BitVec.toNat_ofInt]; omega
  rw [toInt_of_nat k1 (by omega), toInt_of_nat k2 (by omega), toInt_of_nat k3 (by omega)]
  obtain ⟨t, l, s⟩ := n
  simp only at *
  congr 1 <;> omega
theorem nodeOk_back {n : NodeN} {rs : List Rn} (h : fitsB n rs = true) (ht : n.t ≠ 0) : nodeOk (nodeW n rs) = true := by
  obtain ⟨h1, h2, h3, h4, hr⟩ := fits_parts h ht
  have e := headN_toNat h1 h2
  unfold nodeOk
  rw [getR_node h ht, getN_node h ht, nodeW_len, if_pos h]
  have c := nodeW_cons h ht
  have g0 : (nodeW n rs).getD 0 0 = headN n := by rw [c]; rfl
  have g1 : (nodeW n rs).getD 1 0 = BitVec.ofInt 64 n.s := by rw [c]; rfl
  rw [g0, g1]
  have k2 : headN n >>> 32 = 0#64 := by
    apply BitVec.eq_of_toNat_eq
    rw [shr_toNat, e]
    have : (0#64).toNat = 0 := rfl
    omega
  have k3 : (BitVec.ofInt 64 n.s).toNat ≤ 1099511627776 := by rw [BitVec.toNat_ofInt]; omega
  rw [decide_eq_true k2, decide_eq_true k3]
  simp
theorem free_of_fits {n : NodeN} {rs : List Rn} (h : fitsB n rs = true) (ht : n.t = 0) : n = ⟨0, 0, 0⟩ ∧ rs = [] := by
  unfold fitsB at h
  rw [if_pos ht] at h
  simp [nfreeB] at h
  obtain ⟨t, l, s⟩ := n
  simp only at *
  exact ⟨by rw [h.1.1.1, h.1.1.2, h.1.2], h.2⟩
/-- What fits is read as it was written. -/
theorem node_back {n : NodeN} {rs : List Rn} (h : fitsB n rs = true) : nodeOk (nodeW n rs) = true ∧ tellN (nodeW n rs) = n ∧ tellR (nodeW n rs) = rs := by
  by_cases ht : n.t = 0
  · obtain ⟨rfl, rfl⟩ := free_of_fits h ht
    have hk : nodeOk (nodeW ⟨0, 0, 0⟩ []) = true := by decide
    exact ⟨hk, by unfold tellN; rw [if_pos hk]; rfl, by unfold tellR; rw [if_pos hk]; rfl⟩
  · have hk := nodeOk_back h ht
    exact ⟨hk, by unfold tellN; rw [if_pos hk, getN_node h ht], by unfold tellR; rw [if_pos hk, getR_node h ht]⟩
theorem seal_zero {w : BitVec 64} (h : sealOf (w :: List.replicate 6 0#64) = 0#64) : w = 15194568149117813465#64 ∨ 4294967296 ≤ w.toNat := by
  have e : sealOn (sealStep 0x6c696e74656c2121#64 w) (List.replicate 6 0#64) = sealOn 0#64 (List.replicate 6 0#64) := by
    have h2 : sealOn 0#64 (List.replicate 6 0#64) = 0#64 := by decide
    rw [h2]
    exact h
  have e2 := sealOn_inj _ e
  unfold sealStep at e2
  right
  have e3 : w = (0x6c696e74656c2121#64).rotateLeft 9 := by
    have := congrArg (fun x => (0x6c696e74656c2121#64).rotateLeft 9 ^^^ x) e2
    simpa [← BitVec.xor_assoc] using this
  rw [e3]
  decide
/-- Eight words of which one is another. -/
theorem nodeOk_one {n : NodeN} {rs : List Rn} (h : fitsB n rs = true) (ht : n.t ≠ 0) (v : BitVec 64) (hv : v ≠ 0#64) (k : Nat) (hk : k < (nodeW n rs).length) :
    nodeOk ((nodeW n rs).set k ((nodeW n rs)[k] ^^^ v)) = false := by
  cases hb : nodeOk ((nodeW n rs).set k ((nodeW n rs)[k] ^^^ v)) with
  | false => rfl
  | true =>
    exfalso
    obtain ⟨h1, h2, h3, h4, hr⟩ := fits_parts h ht
    have hl8 : (nodeW n rs).length = 8 := by rw [nodeW_len, if_pos h]
    have hE : nodeW (getN ((nodeW n rs).set k ((nodeW n rs)[k] ^^^ v))) (getR ((nodeW n rs).set k ((nodeW n rs)[k] ^^^ v))) = (nodeW n rs).set k ((nodeW n rs)[k] ^^^ v) := by
      unfold nodeOk at hb
      simp only [Bool.and_eq_true] at hb
      exact eq_of_beq hb.2
    clear hb
    generalize getN ((nodeW n rs).set k ((nodeW n rs)[k] ^^^ v)) = n' at hE
    generalize getR ((nodeW n rs).set k ((nodeW n rs)[k] ^^^ v)) = rs' at hE
    have hw : nodeW n rs = nodeB n rs ++ [sealOf (nodeB n rs)] := by unfold nodeW; rw [if_pos h, if_neg ht]
    have hBl := nodeB_len n rs h4
    have hx : ∀ a : BitVec 64, a ^^^ v = a → False := fun a e => xor_ne_self a v hv e
    by_cases hf : fitsB n' rs' = true
    · by_cases ht' : n'.t = 0
      · have e0 : nodeW n' rs' = List.replicate 8 0#64 := by unfold nodeW; rw [if_pos hf, if_pos ht']
        rw [e0] at hE
        have hz : ∀ j, (hj : j < 8) → j ≠ k → (nodeW n rs)[j]? = some 0#64 := fun j hj hne => by
          have := congrArg (fun l => l[j]?) hE
          simp only [List.getElem?_set, List.getElem?_replicate, if_pos hj] at this
          rw [if_neg (fun e => hne e.symm)] at this
          exact this.symm
        have hh0 : (nodeW n rs)[0]? = some (headN n) := by rw [nodeW_cons h ht]; rfl
        have hne0 : headN n ≠ 0#64 := fun e => by
          have := headN_toNat h1 h2
          rw [e] at this
          simp at this
          omega
        have hk0 : k = 0 := by
          by_cases e : k = 0
          · exact e
          · have := hz 0 (by omega) (fun e2 => e e2.symm)
            rw [hh0] at this
            exact absurd (Option.some.inj this) hne0
        subst hk0
        have hBz : nodeB n rs = headN n :: List.replicate 6 0#64 := by
          apply List.ext_getElem?
          intro j
          by_cases hj : j < 7
          · have e1 : (nodeB n rs)[j]? = (nodeW n rs)[j]? := by rw [hw, List.getElem?_append_left (by omega)]
            rw [e1]
            cases j with
            | zero => rw [hh0]; rfl
            | succ j => rw [hz (j + 1) (by omega) (by omega), List.getElem?_cons_succ, List.getElem?_replicate, if_pos (by omega)]
          · rw [List.getElem?_eq_none (by omega), List.getElem?_eq_none (by simp; omega)]
        have hs : sealOf (nodeB n rs) = 0#64 := by
          have := hz 7 (by omega) (by omega)
          rw [hw, List.getElem?_append_right (by omega), hBl] at this
          simpa using this
        rw [hBz] at hs
        have e := headN_toNat h1 h2
        rcases seal_zero hs with h9 | h9
        · rw [h9] at e
          simp at e
          omega
        · omega
      · have e0 : nodeW n' rs' = nodeB n' rs' ++ [sealOf (nodeB n' rs')] := by unfold nodeW; rw [if_pos hf, if_neg ht']
        have hBl' := nodeB_len n' rs' (fits_four hf)
        rw [e0] at hE
        by_cases hk7 : k = 7
        · subst hk7
          have e7 : (nodeW n rs)[7] = sealOf (nodeB n rs) := by
            have : (nodeW n rs)[7]? = some (sealOf (nodeB n rs)) := by rw [hw, List.getElem?_append_right (by omega), hBl]; rfl
            rw [List.getElem?_eq_getElem hk] at this
            exact Option.some.inj this
          rw [e7] at hE
          conv at hE => rhs; rw [hw]
          rw [List.set_append_right _ _ (by omega), hBl] at hE
          have hE2 : nodeB n' rs' ++ [sealOf (nodeB n' rs')] = nodeB n rs ++ [sealOf (nodeB n rs) ^^^ v] := hE
          obtain ⟨i1, i2⟩ := List.append_inj hE2 (by omega)
          rw [i1] at i2
          exact hx _ (List.cons.inj i2).1.symm
        · have hk7' : k < 7 := by omega
          have ek : (nodeW n rs)[k] = (nodeB n rs)[k] := by
            have : (nodeW n rs)[k]? = some (nodeB n rs)[k] := by rw [hw, List.getElem?_append_left (by omega), List.getElem?_eq_getElem (by omega)]
            rw [List.getElem?_eq_getElem hk] at this
            exact Option.some.inj this
          rw [ek] at hE
          conv at hE => rhs; rw [hw]
          rw [List.set_append_left _ _ (by omega)] at hE
          obtain ⟨i1, i2⟩ := List.append_inj hE (by simp; omega)
          rw [i1] at i2
          exact hx _ ((sealOf_set (nodeB n rs) k (by omega) _).1 (List.cons.inj i2).1)
    · have e0 : nodeW n' rs' = [] := by unfold nodeW; rw [if_neg hf]
      rw [e0] at hE
      have := congrArg List.length hE
      simp at this
      omega
end Go.Proofs.Ytgkojedgamglgaa
