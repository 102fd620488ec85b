/- What words tell of a slot; a slot of which a word is another; in plain Lean. No condition. -/
import Derived.Test.YtgkojedgamglgaaSlotPlain
namespace Go.Proofs.Ytgkojedgamglgaa
set_option linter.unusedVariables false
set_option linter.unusedSimpArgs false
def nameOf (xs : List (BitVec 64)) (k : Nat) : List UInt8 := (List.range k).map fun i => ⟨byteIn (xs.drop 2) i⟩
theorem nameOf_succ (xs : List (BitVec 64)) (k : Nat) : nameOf xs (k + 1) = nameOf xs k ++ [⟨byteIn (xs.drop 2) k⟩] := by
  unfold nameOf; rw [List.range_succ, List.map_append]; rfl
theorem nameOf_len (xs : List (BitVec 64)) (k : Nat) : (nameOf xs k).length = k := by unfold nameOf; simp
def strO (xs : List (BitVec 64)) : ByteArray := ⟨(nameOf xs (xs.getD 1 0).toNat).toArray⟩
def slotOk (xs : List (BitVec 64)) : Bool := decide (xs.length = 8) && decide ((xs.getD 0 0).toNat ≤ 64) && decide ((xs.getD 1 0).toNat ≤ 40) && (slotW (xs.getD 0 0).toInt (strO xs) == xs)
def tellZ (xs : List (BitVec 64)) : Int := if slotOk xs = true then (xs.getD 0 0).toInt else 0
def tellS (xs : List (BitVec 64)) : ByteArray := if slotOk xs = true then strO xs else ⟨#[]⟩
theorem toInt_ofNat_small (z : Int) (h0 : 0 ≤ z) (h1 : z ≤ 1000) : (BitVec.ofInt 64 z).toInt = z := by
  rw [BitVec.toInt_ofInt]
  rw [Int.bmod_eq_of_le] <;> omega
theorem byteIn_app (ws ys : List (BitVec 64)) (i : Nat) (h : i / 8 < ws.length) : byteIn (ws ++ ys) i = byteIn ws i := by
  unfold byteIn
  rw [List.getD_eq_getElem?_getD, List.getD_eq_getElem?_getD, List.getElem?_append_left h]
theorem strO_back {z : Int} {s : ByteArray} (h : goodS z s = true) (hz : z ≠ 0) : strO (slotW z s) = s := by
  obtain ⟨⟨z1, z2⟩, s1, s2⟩ := good_parts h hz
  have hw : slotW z s = BitVec.ofInt 64 z :: BitVec.ofNat 64 s.size :: (nameK s s.size ++ [sealOf (slotB z s)]) := by
    unfold slotW; rw [if_pos h, if_neg hz]; rfl
  have e1 : ((slotW z s).getD 1 0).toNat = s.size := by
    rw [hw]
    show (BitVec.ofNat 64 s.size).toNat = s.size
    rw [BitVec.toNat_ofNat]
    omega
  have e2 : (slotW z s).drop 2 = nameK s s.size ++ [sealOf (slotB z s)] := by rw [hw]; rfl
  unfold strO
  rw [e1]
  apply chB_ext
  · show (nameOf (slotW z s) s.size).toArray.size = s.size
    simp [nameOf_len]
  · intro i hi
    have hi2 : i < s.size := by
      have : i < (nameOf (slotW z s) s.size).toArray.size := hi
      simpa [nameOf_len] using this
    unfold chB nameOf
    have hl := nameK_len s s.size
    simp only [List.getElem?_toArray, List.getElem?_map, List.getElem?_range hi2, Option.map_some, Option.getD_some]
    rw [e2, byteIn_app _ _ _ (by omega), byteIn_nameK s s.size s2 i (by omega), if_pos hi2]
    rfl
theorem slot_back {z : Int} {s : ByteArray} (h : goodS z s = true) (hz : z ≠ 0) : slotOk (slotW z s) = true ∧ tellZ (slotW z s) = z ∧ tellS (slotW z s) = s := by
  obtain ⟨⟨z1, z2⟩, s1, s2⟩ := good_parts h hz
  have hs := strO_back h hz
  have hw : slotW z s = BitVec.ofInt 64 z :: BitVec.ofNat 64 s.size :: (nameK s s.size ++ [sealOf (slotB z s)]) := by
    unfold slotW; rw [if_pos h, if_neg hz]; rfl
  have g0 : (slotW z s).getD 0 0 = BitVec.ofInt 64 z := by rw [hw]; rfl
  have g1 : (slotW z s).getD 1 0 = BitVec.ofNat 64 s.size := by rw [hw]; rfl
  have t0 : (BitVec.ofInt 64 z).toInt = z := toInt_ofNat_small z (by omega) (by omega)
  have hok : slotOk (slotW z s) = true := by
    unfold slotOk
    rw [hs, g0, g1, t0, slotW_len, if_pos h]
    have k1 : (BitVec.ofInt 64 z).toNat ≤ 64 := by rw [BitVec.toNat_ofInt]; omega
    have k2 : (BitVec.ofNat 64 s.size).toNat ≤ 40 := by rw [BitVec.toNat_ofNat]; omega
    rw [decide_eq_true k1, decide_eq_true k2]
    simp
  refine ⟨hok, ?_, ?_⟩
  · unfold tellZ; rw [if_pos hok, g0, t0]
  · unfold tellS; rw [if_pos hok, hs]
/-- Eight words of which one is another. -/
theorem slotOk_one {z : Int} {s : ByteArray} (h : goodS z s = true) (hz : z ≠ 0) (v : BitVec 64) (hv : v ≠ 0#64) (k : Nat) (hk : k < (slotW z s).length) :
    slotOk ((slotW z s).set k ((slotW z s)[k] ^^^ v)) = false := by
  cases hb : slotOk ((slotW z s).set k ((slotW z s)[k] ^^^ v)) with
  | false => rfl
  | true =>
    exfalso
    obtain ⟨⟨z1, z2⟩, s1, s2⟩ := good_parts h hz
    have hl8 : (slotW z s).length = 8 := by rw [slotW_len, if_pos h]
    obtain ⟨z', s', hE⟩ : ∃ z' s', slotW z' s' = (slotW z s).set k ((slotW z s)[k] ^^^ v) := by
      unfold slotOk at hb
      simp only [Bool.and_eq_true] at hb
      exact ⟨_, _, eq_of_beq hb.2⟩
    clear hb
    have hw : slotW z s = slotB z s ++ [sealOf (slotB z s)] := by unfold slotW; rw [if_pos h, if_neg hz]
    have hBl := slotB_len z s
    have hx : ∀ a : BitVec 64, a ^^^ v = a → False := fun a e => xor_ne_self a v hv e
    by_cases hf : goodS z' s' = true
    · by_cases ht' : z' = 0
      · have e0 : slotW z' s' = List.replicate 8 0#64 := by unfold slotW; rw [if_pos hf, if_pos ht']
        rw [e0] at hE
        have hzz : ∀ j, (hj : j < 8) → j ≠ k → (slotW z s)[j]? = some 0#64 := fun j hj hne => by
          have := congrArg (fun l => l[j]?) hE
          simp only [List.getElem?_set, List.getElem?_replicate, if_pos hj] at this
          rw [if_neg (fun e => hne e.symm)] at this
          exact this.symm
        have hh0 : (slotW z s)[0]? = some (BitVec.ofInt 64 z) := by rw [hw]; rfl
        have hh1 : (slotW z s)[1]? = some (BitVec.ofNat 64 s.size) := by rw [hw]; rfl
        by_cases e : k = 0
        · have := hzz 1 (by omega) (by omega)
          rw [hh1] at this
          have := congrArg BitVec.toNat (Option.some.inj this)
          rw [BitVec.toNat_ofNat] at this
          simp at this
          omega
        · have := hzz 0 (by omega) (fun e2 => e e2.symm)
          rw [hh0] at this
          exact hz (ofInt_inj (b := 0) (by omega) (by omega) (by omega) (by omega) (Option.some.inj this))
      · have e0 : slotW z' s' = slotB z' s' ++ [sealOf (slotB z' s')] := by unfold slotW; rw [if_pos hf, if_neg ht']
        have hBl' := slotB_len z' s'
        rw [e0] at hE
        by_cases hk7 : k = 7
        · subst hk7
          have e7 : (slotW z s)[7] = sealOf (slotB z s) := by
            have : (slotW z s)[7]? = some (sealOf (slotB z s)) := by rw [hw, List.getElem?_append_right (by omega), hBl]; rfl
            rw [List.getElem?_eq_getElem hk] at this
            exact Option.some.inj this
          rw [e7] at hE
          conv at hE => rhs; rw [hw]
          rw [List.set_append_right _ _ (by omega), hBl] at hE
          have hE2 : slotB z' s' ++ [sealOf (slotB z' s')] = slotB z s ++ [sealOf (slotB z s) ^^^ v] := hE
          obtain ⟨i1, i2⟩ := List.append_inj hE2 (by omega)
          rw [i1] at i2
          exact hx _ (List.cons.inj i2).1.symm
        · have hk7' : k < 7 := by omega
          have ek : (slotW z s)[k] = (slotB z s)[k] := by
            have : (slotW z s)[k]? = some (slotB z s)[k] := by rw [hw, List.getElem?_append_left (by omega), List.getElem?_eq_getElem (by omega)]
            rw [List.getElem?_eq_getElem hk] at this
            exact Option.some.inj this
          rw [ek] at hE
          conv at hE => rhs; rw [hw]
          rw [List.set_append_left _ _ (by omega)] at hE
          obtain ⟨i1, i2⟩ := List.append_inj hE (by simp; omega)
          rw [i1] at i2
          exact hx _ ((sealOf_set (slotB z s) k (by omega) _).1 (List.cons.inj i2).1)
    · have e0 : slotW z' s' = [] := by unfold slotW; rw [if_neg hf]
      rw [e0] at hE
      have := congrArg List.length hE
      simp at this
      omega
end Go.Proofs.Ytgkojedgamglgaa
