/- Plain laws of records read, and of the writes that make one image of another. No program in sight. -/
import Derived.Test.YtoifejinppjeeaaRedoSizeW
import Derived.Test.YtoifejinppjeeaaSealPlain2
namespace Go.Proofs.Ytoifejinppjeeaa
open Go.RowKit
set_option linter.unusedVariables false
set_option linter.unusedSimpArgs false
/-- How many writes words tell of; the j-th of them; is its place too far? -/
def gN (l : List (BitVec 64)) : Nat := (l.getD 1 0#64).toNat
def gAt (l : List (BitVec 64)) (j : Nat) : Int × BitVec 64 := (((l.getD (2 + 2 * j) 0#64).toNat : Int), l.getD (3 + 2 * j) 0#64)
def gws (l : List (BitVec 64)) (k : Nat) : List (Int × BitVec 64) := (List.range k).map (gAt l)
def gBig (l : List (BitVec 64)) (j : Nat) : Bool := decide (1048576#64 < l.getD (2 + 2 * j) 0#64)
def gAny (l : List (BitVec 64)) (k : Nat) : Bool := (List.range k).any (gBig l)
theorem gws_len (l : List (BitVec 64)) (k : Nat) : (gws l k).length = k := by simp [gws]
theorem gws_succ (l : List (BitVec 64)) (k : Nat) : gws l (k + 1) = gws l k ++ [gAt l k] := by simp [gws, List.range_succ]
theorem gAny_succ (l : List (BitVec 64)) (k : Nat) : gAny l (k + 1) = (gAny l k || gBig l k) := by simp [gAny, List.range_succ]
theorem gAny_of {l : List (BitVec 64)} {j k : Nat} (h : gBig l j = true) (hj : j < k) : gAny l k = true :=
  List.any_eq_true.2 ⟨j, List.mem_range.2 hj, h⟩
/-- What words tell, if anything: the number and the writes. -/
def getR (l : List (BitVec 64)) : Option (BitVec 64 × List (Int × BitVec 64)) :=
  if l.length < 3 ∨ l.getD 0 0#64 = 0#64 ∨ 400#64 < l.getD 1 0#64 ∨ l.length < 3 + 2 * gN l ∨ sealFits (l.take (3 + 2 * gN l)) = false ∨ gAny l (gN l) = true then none else some (l.getD 0 0#64, gws l (gN l))
theorem flatW_get : ∀ (ws : List (Int × BitVec 64)) (k : Nat) (h : k < ws.length), (flatW ws)[2 * k]? = some (BitVec.ofInt 64 ws[k].1) ∧ (flatW ws)[2 * k + 1]? = some ws[k].2
  | [], k, h => by simp at h
  | x :: ws, 0, _ => ⟨rfl, rfl⟩
  | x :: ws, k + 1, h => by
    have h2 := flatW_get ws k (by simpa using h)
    have e : flatW (x :: ws) = BitVec.ofInt 64 x.1 :: x.2 :: flatW ws := rfl
    rw [e, show 2 * (k + 1) = 2 * k + 1 + 1 by omega, List.getElem?_cons_succ, List.getElem?_cons_succ, List.getElem?_cons_succ, List.getElem?_cons_succ]
    exact h2
theorem recL_len (num : BitVec 64) (ws : List (Int × BitVec 64)) : (recL num ws).length = 2 + 2 * ws.length := by
  unfold recL
  simp only [List.length_cons, flatW_len]
  omega
theorem gN_rec (num : BitVec 64) (ws : List (Int × BitVec 64)) (rest : List (BitVec 64)) (hn : ws.length ≤ 400) : gN (recL num ws ++ rest) = ws.length := by
  unfold gN recL
  simp only [List.cons_append, List.getD_cons_succ, List.getD_cons_zero, BitVec.toNat_ofNat]
  omega
theorem gAt_rec (num : BitVec 64) (ws : List (Int × BitVec 64)) (rest : List (BitVec 64)) (k : Nat) (h : k < ws.length) : gAt (recL num ws ++ rest) k = (((BitVec.ofInt 64 ws[k].1).toNat : Int), ws[k].2) := by
  obtain ⟨h1, h2⟩ := flatW_get ws k h
  have hl := flatW_len ws
  unfold gAt recL
  simp only [List.getD_eq_getElem?_getD, List.cons_append]
  rw [show 2 + 2 * k = 2 * k + 1 + 1 by omega, show 3 + 2 * k = 2 * k + 1 + 1 + 1 by omega, List.getElem?_cons_succ, List.getElem?_cons_succ, List.getElem?_cons_succ, List.getElem?_cons_succ, List.getElem?_append_left (by omega), List.getElem?_append_left (by omega), h1, h2]
  rfl
theorem badW_no {z : Int} {v : BitVec 64} (h : badW (z, v) = false) : 0 ≤ z ∧ z ≤ 1048576 := by
  unfold badW at h
  simp only [Bool.or_eq_false_iff, decide_eq_false_iff_not] at h
  omega
theorem ofInt_place {z : Int} (h0 : 0 ≤ z) (h1 : z ≤ 1048576) : ((BitVec.ofInt 64 z).toNat : Int) = z := by
  rw [toNat_ofInt_small z h0 (by omega)]
  omega
theorem gws_rec (num : BitVec 64) (ws : List (Int × BitVec 64)) (rest : List (BitVec 64)) (hb : ws.any badW = false) : gws (recL num ws ++ rest) ws.length = ws := by
  apply List.ext_getElem
  · rw [gws_len]
  · intro k h1 h2
    have e : (gws (recL num ws ++ rest) ws.length)[k] = gAt (recL num ws ++ rest) k := by simp [gws]
    rw [e, gAt_rec num ws rest k h2]
    have hk := badW_no (z := ws[k].1) (v := ws[k].2) (List.any_eq_false.1 hb ws[k] (List.getElem_mem h2) |> Bool.eq_false_iff.2)
    rw [ofInt_place hk.1 hk.2]
theorem gBig_rec (num : BitVec 64) (ws : List (Int × BitVec 64)) (rest : List (BitVec 64)) (hb : ws.any badW = false) : gAny (recL num ws ++ rest) ws.length = false := by
  unfold gAny
  rw [List.any_eq_false]
  intro k hk h
  have h2 := List.mem_range.1 hk
  have e := gAt_rec num ws rest k h2
  unfold gAt at e
  injection e with e1 e2
  have hk := badW_no (z := ws[k].1) (v := ws[k].2) (List.any_eq_false.1 hb ws[k] (List.getElem_mem h2) |> Bool.eq_false_iff.2)
  rw [ofInt_place hk.1 hk.2] at e1
  unfold gBig at h
  rw [decide_eq_true_eq, BitVec.lt_def] at h
  have : (1048576#64).toNat = 1048576 := rfl
  omega
/-- What was written is read again, whatever is behind it. -/
theorem getR_back (num : BitVec 64) (ws : List (Int × BitVec 64)) (rest : List (BitVec 64)) (hn : ws.length ≤ 400) (h0 : num ≠ 0#64) (hb : ws.any badW = false) : getR (recL num ws ++ [sealOf (recL num ws)] ++ rest) = some (num, ws) := by
  have hl := recL_len num ws
  rw [List.append_assoc]
  have hN := gN_rec num ws ([sealOf (recL num ws)] ++ rest) hn
  have hW := gws_rec num ws ([sealOf (recL num ws)] ++ rest) hb
  have hB := gBig_rec num ws ([sealOf (recL num ws)] ++ rest) hb
  have hT : (recL num ws ++ ([sealOf (recL num ws)] ++ rest)).take (3 + 2 * ws.length) = recL num ws ++ [sealOf (recL num ws)] := by
    rw [← List.append_assoc]
    apply List.take_left'
    simp only [List.length_append, hl, List.length_cons, List.length_nil]
    omega
  have hF : sealFits (recL num ws ++ [sealOf (recL num ws)]) = true := by rw [sealFits_snoc]; exact beq_self_eq_true _
  have g0 : (recL num ws ++ ([sealOf (recL num ws)] ++ rest)).getD 0 0#64 = num := rfl
  have g1 : (recL num ws ++ ([sealOf (recL num ws)] ++ rest)).getD 1 0#64 = BitVec.ofNat 64 ws.length := rfl
  unfold getR
  rw [hN, hT, hF, hB, hW, g0, g1, if_neg]
  rintro (h | h | h | h | h | h)
  · simp only [List.length_append, hl, List.length_cons, List.length_nil] at h; omega
  · exact h0 h
  · simp only [BitVec.lt_def, BitVec.toNat_ofNat] at h
    omega
  · simp only [List.length_append, hl, List.length_cons, List.length_nil] at h; omega
  · cases h
  · cases h
/-- A word that is another: none. -/
theorem getR_one (num : BitVec 64) (ws : List (Int × BitVec 64)) (hn : ws.length ≤ 400) (k : Nat) (hk : k < (recL num ws ++ [sealOf (recL num ws)]).length) (h1 : k ≠ 1) (v : BitVec 64) (hv : v ≠ 0#64) :
    getR ((recL num ws ++ [sealOf (recL num ws)]).set k ((recL num ws ++ [sealOf (recL num ws)])[k] ^^^ v)) = none := by
  have hl := recL_len num ws
  have hN : gN ((recL num ws ++ [sealOf (recL num ws)]).set k ((recL num ws ++ [sealOf (recL num ws)])[k] ^^^ v)) = ws.length := by
    have h := gN_rec num ws [sealOf (recL num ws)] hn
    unfold gN at h ⊢
    rw [← h]
    simp only [List.getD_eq_getElem?_getD]
    rw [List.getElem?_set_ne h1]
  have hT : ((recL num ws ++ [sealOf (recL num ws)]).set k ((recL num ws ++ [sealOf (recL num ws)])[k] ^^^ v)).take (3 + 2 * ws.length) = (recL num ws ++ [sealOf (recL num ws)]).set k ((recL num ws ++ [sealOf (recL num ws)])[k] ^^^ v) := by
    apply List.take_of_length_le
    simp only [List.length_set, List.length_append, hl, List.length_cons, List.length_nil]
    omega
  have hF : sealFits ((recL num ws ++ [sealOf (recL num ws)]).set k ((recL num ws ++ [sealOf (recL num ws)])[k] ^^^ v)) = false := by
    by_cases hlt : k < (recL num ws).length
    · rw [List.set_append_left _ _ hlt, sealFits_snoc, List.getElem_append_left hlt, beq_eq_false_iff_ne]
      intro e
      have := (sealOf_set (recL num ws) k hlt _).1 e.symm
      exact xor_ne_self _ v hv this
    · have e : k = (recL num ws).length := by
        simp only [List.length_append, List.length_cons, List.length_nil] at hk
        omega
      subst e
      have : (recL num ws ++ [sealOf (recL num ws)])[(recL num ws).length] = sealOf (recL num ws) := by simp
      rw [this]
      rw [List.set_append_right _ _ (Nat.le_refl _), Nat.sub_self, List.set_cons_zero, sealFits_snoc, beq_eq_false_iff_ne]
      exact xor_ne_self _ v hv
  unfold getR
  rw [hN, hT, hF, if_pos]
  exact .inr (.inr (.inr (.inr (.inl rfl))))
/-- The writes that make one image of another, of the first k words. -/
def diffK (a b : List (BitVec 64)) (k : Nat) : List (Int × BitVec 64) := ((List.range k).filter fun i => a.getD i 0#64 != b.getD i 0#64).map fun i : Nat => ((i : Int), b.getD i 0#64)
theorem diffK_len (a b : List (BitVec 64)) (k : Nat) : (diffK a b k).length ≤ k := by
  unfold diffK
  rw [List.length_map]
  exact Nat.le_trans (List.length_filter_le _ _) (by simp)
theorem diffK_same {a b : List (BitVec 64)} {k : Nat} (h1 : k < a.length) (h2 : k < b.length) (h : a[k] = b[k]) : diffK a b (k + 1) = diffK a b k := by
  unfold diffK
  rw [List.range_succ, List.filter_append]
  simp [List.getD_eq_getElem?_getD, h1, h2, h]
theorem diffK_other {a b : List (BitVec 64)} {k : Nat} (h1 : k < a.length) (h2 : k < b.length) (h : a[k] ≠ b[k]) : diffK a b (k + 1) = diffK a b k ++ [((k : Int), b[k])] := by
  unfold diffK
  rw [List.range_succ, List.filter_append]
  simp [List.getD_eq_getElem?_getD, h1, h2, h]
theorem doW_diff (a b : List (BitVec 64)) (hl : a.length = b.length) : ∀ k, k ≤ a.length → doW a (diffK a b k) = b.take k ++ a.drop k
  | 0, _ => rfl
  | k + 1, h => by
    have ih := doW_diff a b hl k (by omega)
    have h1 : k < a.length := by omega
    have h2 : k < b.length := by omega
    have ed : a.drop k = a[k] :: a.drop (k + 1) := List.drop_eq_getElem_cons h1
    have et : b.take (k + 1) = b.take k ++ [b[k]] := List.take_succ_eq_append_getElem h2
    by_cases he : a[k] = b[k]
    · rw [diffK_same h1 h2 he, ih, ed, et, he, List.append_assoc]
      rfl
    · rw [diffK_other h1 h2 he]
      unfold doW at ih ⊢
      rw [List.foldl_append, ih]
      simp only [List.foldl_cons, List.foldl_nil]
      unfold doOne
      have hlen : (b.take k ++ a.drop k).length = a.length := by simp; omega
      rw [if_pos (by rw [hlen]; simp only; omega)]
      simp only [Int.toNat_natCast]
      rw [List.set_append_right _ _ (by simp; omega), ed, et]
      have : k - (b.take k).length = 0 := by simp; omega
      rw [this, List.set_cons_zero, List.append_assoc]
      rfl
theorem doW_all (a b : List (BitVec 64)) (hl : a.length = b.length) : doW a (diffK a b b.length) = b := by
  rw [doW_diff a b hl _ (by omega), List.take_of_length_le (Nat.le_refl _), List.drop_of_length_le (by omega), List.append_nil]
end Go.Proofs.Ytoifejinppjeeaa
