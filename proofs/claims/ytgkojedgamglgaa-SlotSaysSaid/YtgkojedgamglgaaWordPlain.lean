/- Words, bytes and fields of bits in plain Lean (chapter 1). No condition. -/
import Derived.Test.YtgkojedgamglgaaSealPlain
namespace Go.Proofs.Ytgkojedgamglgaa

/-! ### Fields of bits -/
def mayF (f n : Int) : Bool := decide (0 ≤ f) && decide (f ≤ 63) && decide (1 ≤ n) && decide (n ≤ 64 - f)
def low (n : Nat) : BitVec 64 := BitVec.allOnes 64 >>> (64 - n)
def fieldW (v : BitVec 64) (f n : Int) : BitVec 64 := if mayF f n = true then (v >>> f.toNat) &&& low n.toNat else 0
def withW (v : BitVec 64) (f n : Int) (x : BitVec 64) : BitVec 64 := if mayF f n = true then (v &&& ~~~(low n.toNat <<< f.toNat)) ||| (x <<< f.toNat &&& (low n.toNat <<< f.toNat)) else v

theorem low_bit (n i : Nat) (hn : n ≤ 64) : (low n).getLsbD i = decide (i < n) := by
  unfold low
  rw [BitVec.getLsbD_ushiftRight]
  by_cases h : i < n
  · rw [BitVec.getLsbD_allOnes]; simp [h]; omega
  · rw [BitVec.getLsbD_of_ge _ _ (by omega)]; simp [h]
theorem mayF_iff (f n : Int) : mayF f n = true ↔ (0 ≤ f ∧ f ≤ 63 ∧ 1 ≤ n ∧ n ≤ 64 - f) := by
  simp [mayF, and_assoc]
/-- As the program reckons it: masked, then shifted. -/
theorem field_form (v : BitVec 64) (f n : Nat) (h : n + f ≤ 64) : (v &&& low n <<< f) >>> f = (v >>> f) &&& low n := by
  apply BitVec.eq_of_getLsbD_eq
  intro i hi
  simp only [BitVec.getLsbD_ushiftRight, BitVec.getLsbD_and, BitVec.getLsbD_shiftLeft, low_bit _ _ (show n ≤ 64 by omega)]
  by_cases h' : i < n
  · have e1 : f + i < 64 := by omega
    have e2 : ¬ (f + i < f) := by omega
    have e3 : f + i - f = i := by omega
    simp [e1, e3, h']
  · have e3 : f + i - f = i := by omega
    simp [e3, h']
/-- As the reference reckons the mask. -/
theorem low_form (n : Nat) (h : n < 64) : 1#64 <<< n - 1#64 = low n := by
  have key : ∀ k : Fin 64, 1#64 <<< k.val - 1#64 = low k.val := by decide
  exact key ⟨n, h⟩
theorem low_all : low 64 = BitVec.allOnes 64 := by unfold low; rfl
theorem fieldW_bit (v : BitVec 64) (f n : Nat) (hf : f ≤ 63) (h1 : 1 ≤ n) (h2 : n + f ≤ 64) (i : Nat) : (fieldW v f n).getLsbD i = (decide (i < n) && v.getLsbD (f + i)) := by
  unfold fieldW
  rw [if_pos ((mayF_iff _ _).2 (by omega))]
  simp only [Int.toNat_natCast, BitVec.getLsbD_and, BitVec.getLsbD_ushiftRight, low_bit _ _ (show n ≤ 64 by omega)]
  exact Bool.and_comm _ _
theorem withW_bit (v x : BitVec 64) (f n : Nat) (hf : f ≤ 63) (h1 : 1 ≤ n) (h2 : n + f ≤ 64) (i : Nat) (hi : i < 64) :
    (withW v f n x).getLsbD i = if f ≤ i ∧ i < f + n then x.getLsbD (i - f) else v.getLsbD i := by
  unfold withW
  rw [if_pos ((mayF_iff _ _).2 (by omega))]
  simp only [Int.toNat_natCast, BitVec.getLsbD_or, BitVec.getLsbD_and, BitVec.getLsbD_not, BitVec.getLsbD_shiftLeft, low_bit _ _ (show n ≤ 64 by omega)]
  by_cases h : f ≤ i
  · have e1 : ¬ i < f := by omega
    by_cases h' : i < f + n
    · have e2 : i - f < n := by omega
      simp [hi, h, h', e1, e2]
    · have e2 : ¬ (i - f < n) := by omega
      simp [hi, h', e1, e2]
  · have e1 : i < f := by omega
    simp [hi, h, e1]
/-! ### Words and bytes -/
/-- The k-th byte of a word. -/
def byteAt (v : BitVec 64) (k : Nat) : BitVec 8 := (v >>> (8 * k)).setWidth 8
def bytes8 (v : BitVec 64) : List (BitVec 8) := (List.range 8).map (byteAt v)
def bytesOf (l : List (BitVec 64)) : List (BitVec 8) := l.flatMap bytes8
/-- The word of the uppermost k of eight bytes b 0 .. b 7. -/
def wtop (b : Nat → BitVec 8) : Nat → BitVec 64
  | 0 => 0
  | k + 1 => wtop b k <<< 8 ||| (b (7 - k)).setWidth 64
def hasB (n : Nat) (at_ : Int) : Bool := decide (0 ≤ at_) && decide (at_ < (n / 8 : Nat))
def getW (b : List (BitVec 8)) (at_ : Int) : BitVec 64 := if hasB b.length at_ = true then wtop (fun i => b.getD (8 * at_.toNat + i) 0) 8 else 0
def wordsOf (b : List (BitVec 8)) : List (BitVec 64) := (List.range (b.length / 8)).map fun (i : Nat) => getW b (i : Int)
def putB (b : List (BitVec 8)) (at_ : Nat) (v : BitVec 64) : List (BitVec 8) := b.take (8 * at_) ++ bytes8 v ++ b.drop (8 * at_ + 8)
theorem hasB_iff (n : Nat) (at_ : Int) : hasB n at_ = true ↔ 0 ≤ at_ ∧ at_ < (n / 8 : Nat) := by simp [hasB]
theorem length_bytes8 (v : BitVec 64) : (bytes8 v).length = 8 := by simp [bytes8]
theorem length_bytesOf (l : List (BitVec 64)) : (bytesOf l).length = 8 * l.length := by
  unfold bytesOf
  induction l with
  | nil => rfl
  | cons v l ih => rw [List.flatMap_cons, List.length_append, ih, length_bytes8, List.length_cons]; omega
theorem bytesOf_snoc (l : List (BitVec 64)) (v : BitVec 64) : bytesOf (l ++ [v]) = bytesOf l ++ bytes8 v := by simp [bytesOf]
theorem bytes8_get (v : BitVec 64) (k : Nat) (h : k < (bytes8 v).length) : (bytes8 v)[k] = byteAt v k := by simp [bytes8]
theorem byteAt_bit (v : BitVec 64) (k i : Nat) (hi : i < 8) : (byteAt v k).getLsbD i = v.getLsbD (8 * k + i) := by
  unfold byteAt
  rw [BitVec.getLsbD_setWidth, BitVec.getLsbD_ushiftRight]
  simp [hi]
theorem wtop_bit (b : Nat → BitVec 8) : ∀ (k : Nat), k ≤ 8 → ∀ i, (wtop b k).getLsbD i = (decide (i < 8 * k) && (b (8 - k + i / 8)).getLsbD (i % 8))
  | 0, _, i => by simp [wtop]
  | k + 1, hk, i => by
    rw [wtop, BitVec.getLsbD_or, BitVec.getLsbD_shiftLeft, BitVec.getLsbD_setWidth, wtop_bit b k (by omega)]
    by_cases h : i < 8
    · have e1 : i / 8 = 0 := by omega
      have e2 : i % 8 = i := by omega
      have e3 : 8 - (k + 1) + 0 = 7 - k := by omega
      have e4 : i < 64 := by omega
      have e5 : i < 8 * (k + 1) := by omega
      rw [e1, e2, e3]
      simp [h, e4, e5]
    · have e3 : 8 - k + (i - 8) / 8 = 8 - (k + 1) + i / 8 := by omega
      have e4 : (i - 8) % 8 = i % 8 := by omega
      have e6 : (b (7 - k)).getLsbD i = false := BitVec.getLsbD_of_ge _ _ (by omega)
      rw [e3, e4, e6]
      by_cases h64 : i < 8 * (k + 1)
      · have e7 : i - 8 < 8 * k := by omega
        have e8 : i < 64 := by omega
        simp [h, h64, e7, e8]
      · have e7 : ¬ (i - 8 < 8 * k) := by omega
        simp [h64, e7]
theorem word_bit (b : Nat → BitVec 8) (i : Nat) (hi : i < 64) : (wtop b 8).getLsbD i = (b (i / 8)).getLsbD (i % 8) := by
  rw [wtop_bit b 8 (Nat.le_refl _)]
  simp; omega
/-- Eight bytes of a word make that word. -/
theorem wtop_bytes (v : BitVec 64) (b : Nat → BitVec 8) (h : ∀ k, k < 8 → b k = byteAt v k) : wtop b 8 = v := by
  apply BitVec.eq_of_getLsbD_eq
  intro i hi
  rw [word_bit b i hi, h _ (by omega), byteAt_bit _ _ _ (by omega)]
  congr 1
  omega
theorem bytesOf_get (l : List (BitVec 64)) : ∀ (k : Nat) (h : k < l.length) (j : Nat), j < 8 → (bytesOf l).getD (8 * k + j) 0 = byteAt l[k] j := by
  induction l with
  | nil => intro k h; simp at h
  | cons v l ih =>
    intro k h j hj
    unfold bytesOf
    rw [List.flatMap_cons]
    cases k with
    | zero =>
      simp only [Nat.mul_zero, Nat.zero_add, List.getElem_cons_zero]
      rw [List.getD_eq_getElem?_getD, List.getElem?_append_left (by rw [length_bytes8]; exact hj), List.getElem?_eq_getElem (by rw [length_bytes8]; exact hj), bytes8_get]; rfl
    | succ k =>
      simp only [List.getElem_cons_succ]
      rw [List.getD_eq_getElem?_getD, List.getElem?_append_right (by rw [length_bytes8]; omega), length_bytes8, show 8 * (k + 1) + j - 8 = 8 * k + j by omega, ← List.getD_eq_getElem?_getD]
      exact ih k (by simpa using h) j hj
theorem getW_bytesOf (l : List (BitVec 64)) (k : Nat) (h : k < l.length) : getW (bytesOf l) (k : Int) = l[k] := by
  unfold getW
  rw [if_pos ((hasB_iff _ _).2 (by rw [length_bytesOf]; omega)), Int.toNat_natCast]
  exact wtop_bytes _ _ fun j hj => bytesOf_get l k h j hj
theorem wordsOf_bytesOf (l : List (BitVec 64)) : wordsOf (bytesOf l) = l := by
  unfold wordsOf
  apply List.ext_getElem
  · rw [List.length_map, List.length_range, length_bytesOf]; omega
  · intro k h1 h2
    rw [List.getElem_map, List.getElem_range]
    exact getW_bytesOf l k h2
end Go.Proofs.Ytgkojedgamglgaa
