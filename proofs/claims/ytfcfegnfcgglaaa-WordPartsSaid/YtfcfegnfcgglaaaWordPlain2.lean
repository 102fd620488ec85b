/- Plain laws of chapter 1: fields in two parts, turns, bytes of words. -/
import Derived.Test.YtfcfegnfcgglaaaWordPlain
namespace Go.Proofs.Ytfcfegnfcgglaaa

theorem rot_bit (v : BitVec 64) (n : Int) (i : Nat) (hi : i < 64) : (rot v n).getLsbD i = v.getLsbD (((i : Int) - n) % 64).toNat := by
  unfold rot
  rw [BitVec.getLsbD_rotateLeft]
  have h0 : (n % 64).toNat % 64 = (n % 64).toNat := by omega
  rw [h0]
  by_cases h : i < (n % 64).toNat
  · simp only [h, decide_true, cond_true]
    congr 1
    omega
  · simp only [h, hi, decide_true, decide_false, cond_false, Bool.true_and]
    congr 1
    omega
theorem rot_rot (v : BitVec 64) (a b : Int) : rot (rot v a) b = rot v (a + b) := by
  apply BitVec.eq_of_getLsbD_eq
  intro i hi
  rw [rot_bit _ _ i hi, rot_bit _ _ _ (by omega), rot_bit _ _ i hi]
  congr 1
  omega
theorem rot_more (v : BitVec 64) (a : Int) : rot v (a + 64) = rot v a := by
  unfold rot
  congr 2
  omega
theorem rot_back (v : BitVec 64) (n : Int) : rot (rot v n) (-n) = v := by
  rw [rot_rot]
  exact rot_zero v _ (by omega)
theorem field_turn (v : BitVec 64) : fieldW (rot v 8) 8 56 = fieldW v 0 56 := by
  apply BitVec.eq_of_getLsbD_eq
  intro i hi
  rw [show fieldW (rot v 8) 8 56 = fieldW (rot v 8) ((8 : Nat) : Int) ((56 : Nat) : Int) from rfl, show fieldW v 0 56 = fieldW v ((0 : Nat) : Int) ((56 : Nat) : Int) from rfl,
    fieldW_bit _ _ _ (by omega) (by omega) (by omega), fieldW_bit _ _ _ (by omega) (by omega) (by omega)]
  by_cases h : i < 56
  · rw [rot_bit _ _ _ (by omega)]
    simp only [h, decide_true, Bool.true_and]
    congr 1
    omega
  · simp [h]
theorem field_parts (v : BitVec 64) (f a b : Nat) (hf : f ≤ 63) (ha : 1 ≤ a) (hb : 1 ≤ b) (h : f + a + b ≤ 64) :
    fieldW v f ((a : Int) + b) = fieldW v f a ||| fieldW v ((f : Int) + a) b <<< a := by
  apply BitVec.eq_of_getLsbD_eq
  intro i hi
  rw [show ((a : Int) + b) = ((a + b : Nat) : Int) by omega, show ((f : Int) + a) = ((f + a : Nat) : Int) by omega, fieldW_bit _ _ _ hf (by omega) (by omega), BitVec.getLsbD_or, BitVec.getLsbD_shiftLeft,
    fieldW_bit _ _ _ hf (by omega) (by omega), fieldW_bit _ _ _ (by omega) (by omega) (by omega)]
  by_cases h1 : i < a
  · have : i < a + b := by omega
    simp [h1, this]
  · by_cases h2 : i < a + b
    · have e1 : i - a < b := by omega
      have e2 : f + a + (i - a) = f + i := by omega
      simp [h1, h2, e1, e2, hi]
    · have e1 : ¬ (i - a < b) := by omega
      simp [h1, h2, e1]
theorem field_byte (v : BitVec 64) (j : Nat) (hj : j < 8) : (byteAt v j).setWidth 64 = fieldW v ((j : Int) * 8) 8 := by
  apply BitVec.eq_of_getLsbD_eq
  intro i hi
  rw [show ((j : Int) * 8) = ((j * 8 : Nat) : Int) by omega, show (8 : Int) = ((8 : Nat) : Int) from rfl, fieldW_bit _ _ _ (by omega) (by omega) (by omega), BitVec.getLsbD_setWidth]
  by_cases h : i < 8
  · rw [byteAt_bit _ _ _ h]
    simp [h, hi, Nat.mul_comm]
  · rw [BitVec.getLsbD_of_ge _ _ (by omega)]
    simp [h]
theorem with_field (v x : BitVec 64) (f n : Int) (h : mayF f n = true) : fieldW (withW v f n x) f n = fieldW x 0 n := by
  obtain ⟨h1, h2, h3, h4⟩ := (mayF_iff f n).1 h
  obtain ⟨F, rfl⟩ := Int.eq_ofNat_of_zero_le h1
  obtain ⟨M, rfl⟩ := Int.eq_ofNat_of_zero_le (show 0 ≤ n by omega)
  apply BitVec.eq_of_getLsbD_eq
  intro i hi
  rw [fieldW_bit _ _ _ (by omega) (by omega) (by omega), show (0 : Int) = ((0 : Nat) : Int) from rfl, fieldW_bit _ _ _ (by omega) (by omega) (by omega)]
  by_cases h' : i < M
  · rw [withW_bit _ _ _ _ (by omega) (by omega) (by omega) _ (by omega), if_pos (by omega)]
    simp only [h', decide_true, Bool.true_and]
    congr 1
    omega
  · simp [h']
theorem with_back (v x : BitVec 64) (f n : Int) (h : mayF f n = true) : withW (withW v f n x) f n (fieldW v f n) = v := by
  obtain ⟨h1, h2, h3, h4⟩ := (mayF_iff f n).1 h
  obtain ⟨F, rfl⟩ := Int.eq_ofNat_of_zero_le h1
  obtain ⟨M, rfl⟩ := Int.eq_ofNat_of_zero_le (show 0 ≤ n by omega)
  apply BitVec.eq_of_getLsbD_eq
  intro i hi
  rw [withW_bit _ _ _ _ (by omega) (by omega) (by omega) _ hi]
  split
  · rename_i h'
    rw [fieldW_bit _ _ _ (by omega) (by omega) (by omega)]
    have e1 : i - F < M := by omega
    have e2 : F + (i - F) = i := by omega
    simp [e1, e2]
  · rename_i h'
    rw [withW_bit _ _ _ _ (by omega) (by omega) (by omega) _ hi, if_neg h']
theorem bytesOf_at (l : List (BitVec 64)) (k : Nat) (h : k < (bytesOf l).length) (h8 : k / 8 < l.length) : (bytesOf l)[k] = byteAt l[k / 8] (k % 8) := by
  have h1 := bytesOf_get l (k / 8) h8 (k % 8) (by omega)
  rw [show 8 * (k / 8) + k % 8 = k by omega, List.getD_eq_getElem?_getD, List.getElem?_eq_getElem h] at h1
  exact h1
end Go.Proofs.Ytfcfegnfcgglaaa
