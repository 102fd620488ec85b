/- The sums of chapter 2 in plain Lean: seal.On, seal.Of, seal.Fits as functions on words of 64 bits. No condition. -/
namespace Go.Proofs.Ytoifejinppjeeaa

/-- A word turned to the left by n (any integer). -/
def rot (v : BitVec 64) (n : Int) : BitVec 64 := v.rotateLeft (n % 64).toNat
def sealStep (s v : BitVec 64) : BitVec 64 := s.rotateLeft 9 ^^^ v
def sealOn (s : BitVec 64) (l : List (BitVec 64)) : BitVec 64 := l.foldl sealStep s
def sealOf (l : List (BitVec 64)) : BitVec 64 := sealOn 0x6c696e74656c2121#64 l
def sealFits (l : List (BitVec 64)) : Bool := l != [] && l.getLastD 0 == sealOf l.dropLast

theorem sealOn_nil (s : BitVec 64) : sealOn s [] = s := rfl
theorem sealOn_cons (s v : BitVec 64) (l : List (BitVec 64)) : sealOn s (v :: l) = sealOn (sealStep s v) l := rfl
theorem sealOn_append (s : BitVec 64) (a b : List (BitVec 64)) : sealOn s (a ++ b) = sealOn (sealOn s a) b := by simp [sealOn, List.foldl_append]
theorem sealOn_snoc (s v : BitVec 64) (l : List (BitVec 64)) : sealOn s (l ++ [v]) = sealStep (sealOn s l) v := by rw [sealOn_append]; rfl
theorem rot_nine (v : BitVec 64) : rot v 9 = v.rotateLeft 9 := rfl
theorem take_snoc {α : Type} (l : List α) (k : Nat) (h : k < l.length) : l.take (k + 1) = l.take k ++ [l[k]] := by
  rw [List.take_succ_eq_append_getElem h]
theorem sealOn_take (s : BitVec 64) (l : List (BitVec 64)) (k : Nat) (h : k < l.length) : sealOn s (l.take (k + 1)) = (sealOn s (l.take k)).rotateLeft 9 ^^^ l[k] := by
  rw [take_snoc l k h, sealOn_snoc]; rfl
/-- What bits.RotateLeft64 writes. -/
theorem rot_form (v m : BitVec 64) (n : Int) (hm : m = BitVec.ofInt 64 n &&& 63#64) : v <<< m.toNat ||| v >>> (64#64 - m).toNat = rot v n := by
  have h0 : m.toNat = (n % 64).toNat := by
    rw [hm, BitVec.toNat_and, BitVec.toNat_ofInt]
    have h63 : (63#64).toNat = 2 ^ 6 - 1 := rfl
    rw [h63, Nat.and_two_pow_sub_one_eq_mod]
    omega
  have hlt : (n % 64).toNat < 64 := by omega
  have h1 : (64#64 - m).toNat = 64 - (n % 64).toNat := by
    rw [BitVec.toNat_sub, h0]
    have : (64#64).toNat = 64 := rfl
    omega
  rw [h0, h1]
  unfold rot BitVec.rotateLeft BitVec.rotateLeftAux
  rw [Nat.mod_eq_of_lt hlt]
theorem tmod_spec (n : Int) : -63 ≤ n.tmod 64 ∧ n.tmod 64 ≤ 63 ∧ ∃ q, n = n.tmod 64 + 64 * q := by
  refine ⟨?_, ?_, n.tdiv 64, ?_⟩
  · have h := Int.lt_tmod_of_pos n (show (0 : Int) < 64 by omega); omega
  · have h := Int.tmod_lt_of_pos n (show (0 : Int) < 64 by omega); omega
  · exact (Int.tmod_add_mul_tdiv n 64).symm
theorem rot_of_mod (v : BitVec 64) (n k : Int) (h0 : 0 ≤ k) (h1 : k < 64) (hk : n % 64 = k) : rot v n = v <<< k.toNat ||| v >>> (64 - k.toNat) := by
  unfold rot BitVec.rotateLeft BitVec.rotateLeftAux
  rw [hk, Nat.mod_eq_of_lt (by omega)]
theorem rot_zero (v : BitVec 64) (n : Int) (hk : n % 64 = 0) : rot v n = v := by
  rw [rot_of_mod v n 0 (by omega) (by omega) hk]
  apply BitVec.eq_of_toNat_eq
  have h := v.isLt
  have e : v.toNat / 18446744073709551616 = 0 := by omega
  simp [BitVec.toNat_ushiftRight, Nat.shiftRight_eq_div_pow, e]
theorem toNat_ofInt_small (k : Int) (h0 : 0 ≤ k) (h1 : k < 18446744073709551616) : (BitVec.ofInt 64 k).toNat = k.toNat := by
  rw [BitVec.toNat_ofInt]; congr 1; omega
end Go.Proofs.Ytoifejinppjeeaa
