/- Chapter 11: bits in words, in plain Lean. No condition. -/
import Derived.Test.YtdadplpibdjjbaaWords
namespace Go.Proofs.Ytdadplpibdjjbaa
set_option linter.unusedVariables false
set_option linter.unusedSimpArgs false

theorem bit_get (v : BitVec 64) (j : Nat) : (v >>> j &&& 1#64 == 1#64) = v.getLsbD j := by
  rw [BitVec.and_one_eq_setWidth_ofBool_getLsbD, BitVec.getLsbD_ushiftRight, Nat.add_zero]
  cases v.getLsbD j <;> decide
/-- Bit k of the words. -/
def bitN (xs : List (BitVec 64)) (k : Nat) : Bool := (xs.getD (k / 64) 0).getLsbD (k % 64)
theorem bitN_out (xs : List (BitVec 64)) (k : Nat) (h : 64 * xs.length ≤ k) : bitN xs k = false := by
  unfold bitN
  rw [List.getD_eq_getElem?_getD, List.getElem?_eq_none (by omega)]
  simp
def hasB (xs : List (BitVec 64)) (i : Int) : Bool := decide (0 ≤ i) && bitN xs i.toNat
theorem hasB_nat (xs : List (BitVec 64)) (k : Nat) : hasB xs (k : Int) = bitN xs k := by simp [hasB]
/-- How many of the first m are set. -/
def cntB (xs : List (BitVec 64)) : Nat → Nat
  | 0 => 0
  | m + 1 => cntB xs m + if bitN xs m = true then 1 else 0
theorem cntB_le (xs : List (BitVec 64)) : ∀ m, cntB xs m ≤ m
  | 0 => Nat.le_refl _
  | m + 1 => by
    have := cntB_le xs m
    unfold cntB
    split <;> omega
/-- The first from k on, of d, that is so. -/
def nextN (xs : List (BitVec 64)) (yes : Bool) (k : Nat) : Nat → Option Nat
  | 0 => none
  | d + 1 => if bitN xs k = yes then some k else nextN xs yes (k + 1) d
theorem nextN_some {xs : List (BitVec 64)} {yes : Bool} : ∀ {d k i : Nat}, nextN xs yes k d = some i → k ≤ i ∧ i < k + d ∧ bitN xs i = yes ∧ ∀ j, k ≤ j → j < i → bitN xs j ≠ yes
  | 0, k, i, h => by cases h
  | d + 1, k, i, h => by
    unfold nextN at h
    split at h
    · rename_i hk
      cases h
      exact ⟨Nat.le_refl _, by omega, hk, fun j h1 h2 => by omega⟩
    · rename_i hk
      obtain ⟨h1, h2, h3, h4⟩ := nextN_some h
      refine ⟨by omega, by omega, h3, fun j h5 h6 => ?_⟩
      by_cases e : j = k
      · rw [e]; exact hk
      · exact h4 j (by omega) h6
theorem nextN_none {xs : List (BitVec 64)} {yes : Bool} : ∀ {d k : Nat}, nextN xs yes k d = none → ∀ j, k ≤ j → j < k + d → bitN xs j ≠ yes
  | 0, k, h, j, h1, h2 => by omega
  | d + 1, k, h, j, h1, h2 => by
    unfold nextN at h
    split at h
    · cases h
    · rename_i hk
      by_cases e : j = k
      · rw [e]; exact hk
      · exact nextN_none h j (by omega) (by omega)
theorem cntB_same {xs : List (BitVec 64)} {a : Nat} : ∀ d, (∀ j, a ≤ j → j < a + d → bitN xs j ≠ true) → cntB xs (a + d) = cntB xs a
  | 0, _ => rfl
  | d + 1, h => by
    have e : a + (d + 1) = (a + d) + 1 := by omega
    rw [e, cntB, if_neg (h _ (by omega) (by omega)), cntB_same d fun j h1 h2 => h j h1 (by omega), Nat.add_zero]
/-- From a to the next one i, and behind it. -/
theorem cntB_next {xs : List (BitVec 64)} {a d i : Nat} (h : nextN xs true a d = some i) : cntB xs (i + 1) = cntB xs a + 1 := by
  obtain ⟨h1, h2, h3, h4⟩ := nextN_some h
  rw [cntB, if_pos h3]
  have := cntB_same (xs := xs) (a := a) (i - a) fun j h5 h6 => h4 j h5 (by omega)
  rw [show a + (i - a) = i by omega] at this
  rw [this]
theorem cntB_end {xs : List (BitVec 64)} {a d : Nat} (h : nextN xs true a d = none) : cntB xs (a + d) = cntB xs a := cntB_same d (nextN_none h)

/-- Where n in a row are not set: from k on, of d; row of them are known. -/
def freeN (xs : List (BitVec 64)) (n : Nat) (k row : Nat) : Nat → Option Nat
  | 0 => none
  | d + 1 => if (if bitN xs k = true then 0 else row + 1) = n then some (k + 1 - n) else freeN xs n (k + 1) (if bitN xs k = true then 0 else row + 1) d
theorem freeN_some {xs : List (BitVec 64)} {n : Nat} (hn : 0 < n) : ∀ {d k row f : Nat}, freeN xs n k row d = some f → row < n → row ≤ k → (∀ j, k - row ≤ j → j < k → bitN xs j = false) →
    k < f + n ∧ f + n ≤ k + d ∧ (∀ j, f ≤ j → j < f + n → bitN xs j = false) ∧ ∀ d', k + d' < f + n → freeN xs n k row d' = none
  | 0, k, row, f, h, _, _, _ => by cases h
  | d + 1, k, row, f, h, h1, h2, h3 => by
    unfold freeN at h
    by_cases hb : bitN xs k = true
    · simp only [hb, if_true] at h
      rw [if_neg (by omega)] at h
      obtain ⟨e1, e2, e3, e4⟩ := freeN_some hn h (by omega) (by omega) (fun j a b => by omega)
      refine ⟨by omega, by omega, e3, fun d' hd => ?_⟩
      cases d' with
      | zero => rfl
      | succ d' =>
        unfold freeN
        simp only [hb, if_true]
        rw [if_neg (by omega)]
        exact e4 d' (by omega)
    · have hb' : bitN xs k = false := by simpa using hb
      simp only [if_neg hb] at h
      split at h
      · rename_i e
        cases h
        refine ⟨by omega, by omega, fun j a b => ?_, fun d' hd => ?_⟩
        · by_cases e2 : j = k
          · rw [e2]; exact hb'
          · exact h3 j (by omega) (by omega)
        · have : d' = 0 := by omega
          rw [this]; rfl
      · rename_i e
        obtain ⟨e1, e2, e3, e4⟩ := freeN_some hn h (by omega) (by omega) (fun j a b => by
          by_cases e2 : j = k
          · rw [e2]; exact hb'
          · exact h3 j (by omega) (by omega))
        refine ⟨by omega, by omega, e3, fun d' hd => ?_⟩
        cases d' with
        | zero => rfl
        | succ d' =>
          unfold freeN
          simp only [if_neg hb]
          rw [if_neg e]
          exact e4 d' (by omega)

/-- One bit, set or not. -/
def setOne (yes : Bool) (xs : List (BitVec 64)) (i : Int) : List (BitVec 64) :=
  if 0 ≤ i ∧ i < 64 * (xs.length : Int) then
    xs.set (i.toNat / 64) (if yes = true then (xs.getD (i.toNat / 64) 0 &&& ~~~(1#64 <<< (i.toNat % 64))) ||| (1#64 <<< (i.toNat % 64)) else xs.getD (i.toNat / 64) 0 &&& ~~~(1#64 <<< (i.toNat % 64)))
  else xs
theorem setOne_len (yes : Bool) (xs : List (BitVec 64)) (i : Int) : (setOne yes xs i).length = xs.length := by
  unfold setOne
  split <;> simp
def setB (yes : Bool) (xs : List (BitVec 64)) (l : List Int) : List (BitVec 64) := l.foldl (setOne yes) xs
theorem setB_len (yes : Bool) : ∀ (l : List Int) (xs : List (BitVec 64)), (setB yes xs l).length = xs.length
  | [], _ => rfl
  | i :: l, xs => by
    show (setB yes (setOne yes xs i) l).length = _
    rw [setB_len yes l, setOne_len]
theorem setB_take (yes : Bool) (xs : List (BitVec 64)) (l : List Int) (k : Nat) (h : k < l.length) : setB yes xs (l.take (k + 1)) = setOne yes (setB yes xs (l.take k)) l[k] := by
  unfold setB
  rw [List.take_add_one, List.foldl_append, List.getElem?_eq_getElem h]
  rfl
theorem bitN_setOne (xs : List (BitVec 64)) (i : Int) (k : Nat) (hk : k < 64 * xs.length) : bitN (setOne true xs i) k = (decide (i = (k : Int)) || bitN xs k) := by
  unfold setOne
  split
  · rename_i h
    obtain ⟨m, rfl⟩ := Int.eq_ofNat_of_zero_le h.1
    simp only [if_true, Int.toNat_natCast]
    have hm : m / 64 < xs.length := by omega
    unfold bitN
    by_cases e : m / 64 = k / 64
    · rw [e, List.getD_eq_getElem?_getD, List.getElem?_set_self (by omega)]
      simp only [Option.getD_some]
      rw [BitVec.getLsbD_or, BitVec.getLsbD_and, BitVec.getLsbD_not, BitVec.getLsbD_shiftLeft, BitVec.getLsbD_one]
      have hk64 : k % 64 < 64 := Nat.mod_lt _ (by omega)
      by_cases e2 : m % 64 = k % 64
      · have : m = k := by omega
        subst this
        simp [hk64]
      · have hne : ¬ ((m : Int) = (k : Int)) := by omega
        have : (decide (k % 64 < 64) && !decide (k % 64 < m % 64) && (decide (0 < 64) && decide (k % 64 - m % 64 = 0))) = false := by
          simp only [Bool.and_eq_false_iff, Bool.not_eq_false', decide_eq_true_eq, decide_eq_false_iff_not]
          omega
        rw [this]
        simp [hne, hk64]
    · rw [List.getD_eq_getElem?_getD, List.getElem?_set_ne e, ← List.getD_eq_getElem?_getD]
      have hne : ¬ ((m : Int) = (k : Int)) := by omega
      simp [hne]
  · rename_i h
    have hne : ¬ (i = (k : Int)) := by omega
    simp [hne]
theorem bitN_setB : ∀ (l : List Int) (xs : List (BitVec 64)) (k : Nat), k < 64 * xs.length → bitN (setB true xs l) k = (l.any (fun i => decide (i = (k : Int))) || bitN xs k)
  | [], _, _, _ => by simp [setB]
  | i :: l, xs, k, h => by
    show bitN (setB true (setOne true xs i) l) k = _
    rw [bitN_setB l _ k (by rw [setOne_len]; exact h), bitN_setOne xs i k h, List.any_cons]
    cases decide (i = (k : Int)) <;> cases l.any (fun i => decide (i = (k : Int))) <;> simp
end Go.Proofs.Ytdadplpibdjjbaa
