/- Names in words, and back, in plain Lean. No condition. -/
import Derived.Test.YtgkojedgamglgaaSealPlain2
import Derived.Laws.Strings
import Derived.Lib.Bytealg
namespace Go.Proofs.Ytgkojedgamglgaa
set_option linter.unusedVariables false
set_option linter.unusedSimpArgs false
/-- A byte of a name, and a slot's five words when k bytes of the name are in. -/
def chB (s : ByteArray) (k : Nat) : BitVec 8 := (s.data[k]?.getD 0).toBitVec
def nameK (s : ByteArray) : Nat → List (BitVec 64)
  | 0 => [0#64, 0#64, 0#64, 0#64, 0#64]
  | k + 1 => (nameK s k).set (k / 8) ((nameK s k).getD (k / 8) 0#64 ||| (chB s k).setWidth 64 <<< (8 * (k % 8)))
def byteIn (ws : List (BitVec 64)) (i : Nat) : BitVec 8 := (ws.getD (i / 8) 0#64 >>> (8 * (i % 8))).setWidth 8
theorem nameK_len (s : ByteArray) : ∀ k, (nameK s k).length = 5
  | 0 => rfl
  | k + 1 => by unfold nameK; rw [List.length_set]; exact nameK_len s k
theorem byteIn_set (ws : List (BitVec 64)) (x : BitVec 8) (k i : Nat) (hk : k / 8 < ws.length) (h0 : byteIn ws k = 0#8) :
    byteIn (ws.set (k / 8) (ws.getD (k / 8) 0#64 ||| x.setWidth 64 <<< (8 * (k % 8)))) i = if i = k then x else byteIn ws i := by
  unfold byteIn at *
  by_cases hw : i / 8 = k / 8
  · rw [hw]
    rw [show (ws.set (k / 8) (ws.getD (k / 8) 0#64 ||| x.setWidth 64 <<< (8 * (k % 8)))).getD (k / 8) 0#64 = ws.getD (k / 8) 0#64 ||| x.setWidth 64 <<< (8 * (k % 8)) by
      rw [List.getD_eq_getElem?_getD, List.getElem?_set_self hk]; rfl]
    generalize ws.getD (k / 8) 0#64 = v at *
    by_cases hi : i = k
    · rw [if_pos hi]
      subst hi
      apply BitVec.eq_of_getLsbD_eq
      intro t ht
      have h1 := congrArg (fun b : BitVec 8 => b.getLsbD t) h0
      simp only [BitVec.getLsbD_setWidth, BitVec.getLsbD_ushiftRight, BitVec.getLsbD_zero, ht, decide_true, Bool.true_and] at h1
      simp only [BitVec.getLsbD_setWidth, BitVec.getLsbD_ushiftRight, BitVec.getLsbD_or, BitVec.getLsbD_shiftLeft, ht, decide_true, Bool.true_and, h1]
      have e1 : ¬ (8 * (i % 8) + t < 8 * (i % 8)) := by omega
      have e2 : 8 * (i % 8) + t < 64 := by omega
      have e3 : 8 * (i % 8) + t - 8 * (i % 8) = t := by omega
      simp only [e1, e2, e3, decide_true, decide_false, Bool.not_false, Bool.true_and, Bool.false_or]
      simp [show t < 64 by omega]
    · rw [if_neg hi]
      apply BitVec.eq_of_getLsbD_eq
      intro t ht
      simp only [BitVec.getLsbD_setWidth, BitVec.getLsbD_ushiftRight, BitVec.getLsbD_or, BitVec.getLsbD_shiftLeft, ht, decide_true, Bool.true_and]
      have e4 : (decide (8 * (i % 8) + t < 64) && !decide (8 * (i % 8) + t < 8 * (k % 8)) && (decide (8 * (i % 8) + t - 8 * (k % 8) < 64) && x.getLsbD (8 * (i % 8) + t - 8 * (k % 8)))) = false := by
        by_cases hlt : 8 * (i % 8) + t < 8 * (k % 8)
        · simp [hlt]
        · have e6 : x.getLsbD (8 * (i % 8) + t - 8 * (k % 8)) = false := BitVec.getLsbD_of_ge _ _ (by omega)
          rw [e6]; simp
      rw [e4, Bool.or_false]
  · rw [show (ws.set (k / 8) (ws.getD (k / 8) 0#64 ||| x.setWidth 64 <<< (8 * (k % 8)))).getD (i / 8) 0#64 = ws.getD (i / 8) 0#64 by
      rw [List.getD_eq_getElem?_getD, List.getElem?_set_ne (by omega), List.getD_eq_getElem?_getD]]
    rw [if_neg (by intro h; exact hw (by rw [h]))]
theorem byteIn_nameK (s : ByteArray) : ∀ k, k ≤ 40 → ∀ i, i < 40 → byteIn (nameK s k) i = if i < k then chB s i else 0#8
  | 0, _, i, hi => by
    have h5 : i / 8 < 5 := by omega
    rw [if_neg (by omega)]
    unfold byteIn nameK
    have : ([0#64, 0#64, 0#64, 0#64, 0#64] : List (BitVec 64)).getD (i / 8) 0#64 = 0#64 := by
      generalize i / 8 = m at *
      match m, h5 with
      | 0, _ => rfl
      | 1, _ => rfl
      | 2, _ => rfl
      | 3, _ => rfl
      | 4, _ => rfl
    rw [this]
    simp
  | k + 1, hk, i, hi => by
    have ih := byteIn_nameK s k (by omega)
    have h0 := ih k (by omega)
    rw [if_neg (by omega)] at h0
    have hl := nameK_len s k
    unfold nameK
    rw [byteIn_set _ _ _ _ (by omega) h0, ih i hi]
    by_cases h : i = k
    · subst h; simp
    · rw [if_neg h]
      by_cases h2 : i < k
      · rw [if_pos h2, if_pos (by omega)]
      · rw [if_neg h2, if_neg (by omega)]
theorem chB_ext {a b : ByteArray} (hs : a.size = b.size) (h : ∀ i, i < a.size → chB a i = chB b i) : a = b := by
  cases a with
  | mk a =>
    cases b with
    | mk b =>
      congr 1
      apply Array.ext
      · exact hs
      · intro i h1 h2
        have := h i h1
        unfold chB at this
        simp only at this
        rw [Array.getElem?_eq_getElem h1, Array.getElem?_eq_getElem h2] at this
        simpa using UInt8.toBitVec_inj.1 this
/-- The words tell the name. -/
theorem nameK_inj {a b : ByteArray} (ha : a.size ≤ 40) (hs : a.size = b.size) (h : nameK a a.size = nameK b b.size) : a = b := by
  apply chB_ext hs
  intro i hi
  have h1 := byteIn_nameK a a.size ha i (by omega)
  have h2 := byteIn_nameK b b.size (by omega) i (by omega)
  rw [if_pos hi] at h1
  rw [if_pos (by omega)] at h2
  rw [← h1, ← h2, h]
/-- May a name be; may a slot be; its words. -/
def hasC (s : ByteArray) (c : UInt8) : Bool := decide (0 ≤ Lib.indexByte s.data.toList c)
def namedB (s : ByteArray) : Bool := decide (1 ≤ s.size) && decide (s.size ≤ 40) && !(s.toList == [46]) && !(s.toList == [46, 46]) && !hasC s 47 && !hasC s 0
def goodS (z : Int) (s : ByteArray) : Bool := if z = 0 then s.toList == [] else decide (1 ≤ z) && decide (z ≤ 64) && namedB s
def slotB (z : Int) (s : ByteArray) : List (BitVec 64) := BitVec.ofInt 64 z :: BitVec.ofNat 64 s.size :: nameK s s.size
def slotW (z : Int) (s : ByteArray) : List (BitVec 64) := if goodS z s = true then (if z = 0 then List.replicate 8 0#64 else slotB z s ++ [sealOf (slotB z s)]) else []
theorem good_parts {z : Int} {s : ByteArray} (h : goodS z s = true) (hz : z ≠ 0) : (1 ≤ z ∧ z ≤ 64) ∧ (1 ≤ s.size ∧ s.size ≤ 40) := by
  unfold goodS namedB at h
  rw [if_neg hz] at h
  simp only [Bool.and_eq_true, decide_eq_true_eq] at h
  exact ⟨h.1, h.2.1.1.1.1⟩
theorem slotB_len (z : Int) (s : ByteArray) : (slotB z s).length = 7 := by
  unfold slotB; rw [List.length_cons, List.length_cons, nameK_len]
theorem slotW_len (z : Int) (s : ByteArray) : (slotW z s).length = if goodS z s = true then 8 else 0 := by
  unfold slotW
  split
  · split
    · simp
    · rw [List.length_append, slotB_len]; rfl
  · rfl
theorem ofInt_inj {a b : Int} (ha : 0 ≤ a) (ha2 : a < 18446744073709551616) (hb : 0 ≤ b) (hb2 : b < 18446744073709551616) (h : BitVec.ofInt 64 a = BitVec.ofInt 64 b) : a = b := by
  have := congrArg BitVec.toNat h
  simp only [BitVec.toNat_ofInt] at this
  omega
/-- Slots that are unlike have unlike words. -/
theorem slotW_inj {y z : Int} {a b : ByteArray} (ha : goodS y a = true) (hb : goodS z b = true) (h : slotW y a = slotW z b) : y = z ∧ a = b := by
  unfold slotW at h
  rw [if_pos ha, if_pos hb] at h
  by_cases hy : y = 0
  · by_cases hz : z = 0
    · subst hy hz
      unfold goodS at ha hb
      rw [if_pos rfl] at ha hb
      have e := (eq_of_beq ha).trans (eq_of_beq hb).symm
      rw [ByteArray.toList_eq, ByteArray.toList_eq] at e
      refine ⟨rfl, ?_⟩
      cases a; cases b
      congr 1
      exact Array.toList_inj.1 e
    · rw [if_pos hy, if_neg hz] at h
      have h1 := congrArg (fun l => l.head?) h
      obtain ⟨⟨z1, z2⟩, _⟩ := good_parts hb hz
      unfold slotB at h1
      simp [List.replicate_succ] at h1
      exact absurd (ofInt_inj (a := 0) (by omega) (by omega) (by omega) (by omega) h1) (by omega)
  · obtain ⟨⟨y1, y2⟩, s1, s2⟩ := good_parts ha hy
    by_cases hz : z = 0
    · rw [if_neg hy, if_pos hz] at h
      have h1 := congrArg (fun l => l.head?) h
      unfold slotB at h1
      simp [List.replicate_succ] at h1
      exact absurd (ofInt_inj (b := 0) (by omega) (by omega) (by omega) (by omega) h1) (by omega)
    · obtain ⟨⟨z1, z2⟩, t1, t2⟩ := good_parts hb hz
      rw [if_neg hy, if_neg hz] at h
      have h3 := List.append_inj_left h (by rw [slotB_len, slotB_len])
      unfold slotB at h3
      injection h3 with h4 h5
      injection h5 with h6 h7
      have e1 := ofInt_inj (by omega) (by omega) (by omega) (by omega) h4
      have e2 : a.size = b.size := by
        have := congrArg BitVec.toNat h6
        simp only [BitVec.toNat_ofNat] at this
        omega
      exact ⟨e1, nameK_inj s2 (by omega) h7⟩
end Go.Proofs.Ytgkojedgamglgaa
