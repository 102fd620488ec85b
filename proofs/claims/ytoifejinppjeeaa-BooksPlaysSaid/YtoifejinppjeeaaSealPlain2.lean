/- Plain laws of the sums of chapter 2: one word that is another; rows put over one another; two that change places. -/
import Derived.Test.YtoifejinppjeeaaSealPlain
namespace Go.Proofs.Ytoifejinppjeeaa

theorem rotl9_inj {a b : BitVec 64} (h : a.rotateLeft 9 = b.rotateLeft 9) : a = b := by
  apply BitVec.eq_of_getLsbD_eq
  intro i hi
  by_cases h' : i < 55
  · have := congrArg (fun v => v.getLsbD (i + 9)) h
    simp only [BitVec.getLsbD_rotateLeft] at this
    have e1 : ¬ (i + 9 < 9 % 64) := by omega
    have e2 : i + 9 < 64 := by omega
    have e3 : i + 9 - 9 % 64 = i := by omega
    simp only [e1, e2, e3, decide_true, Bool.true_and] at this
    exact this
  · have := congrArg (fun v => v.getLsbD (i - 55)) h
    simp only [BitVec.getLsbD_rotateLeft] at this
    have e1 : i - 55 < 9 % 64 := by omega
    have e3 : 64 - 9 % 64 + (i - 55) = i := by omega
    simp only [e1, e3] at this
    exact this
theorem rotl9_xor (a b : BitVec 64) : (a ^^^ b).rotateLeft 9 = a.rotateLeft 9 ^^^ b.rotateLeft 9 := by
  apply BitVec.eq_of_getLsbD_eq
  intro i hi
  simp only [BitVec.getLsbD_rotateLeft, BitVec.getLsbD_xor]
  by_cases h : i < 9 % 64 <;> simp [h, hi]
theorem xor_right_inj {a b c : BitVec 64} (h : a ^^^ c = b ^^^ c) : a = b := by
  have := congrArg (· ^^^ c) h
  simpa [BitVec.xor_assoc] using this
theorem xor_left_inj {a b c : BitVec 64} (h : c ^^^ a = c ^^^ b) : a = b := by
  rw [BitVec.xor_comm c a, BitVec.xor_comm c b] at h; exact xor_right_inj h
theorem sealStep_inj_left {s t v : BitVec 64} (h : sealStep s v = sealStep t v) : s = t := rotl9_inj (xor_right_inj h)
theorem sealStep_inj_right {s u v : BitVec 64} (h : sealStep s u = sealStep s v) : u = v := xor_left_inj h
theorem sealOn_inj (l : List (BitVec 64)) : ∀ {s t : BitVec 64}, sealOn s l = sealOn t l → s = t := by
  induction l with
  | nil => intro s t h; exact h
  | cons v l ih => intro s t h; exact sealStep_inj_left (ih h)
/-- One word that is another makes another sum. -/
theorem sealOf_set (xs : List (BitVec 64)) (k : Nat) (hk : k < xs.length) (u : BitVec 64) : sealOf (xs.set k u) = sealOf xs ↔ u = xs[k] := by
  have e : xs = xs.take k ++ xs[k] :: xs.drop (k + 1) := by simp
  constructor
  · intro h
    rw [List.set_eq_take_append_cons_drop, if_pos hk] at h
    conv at h => rhs; rw [e]
    unfold sealOf at h
    rw [sealOn_append, sealOn_append, sealOn_cons, sealOn_cons] at h
    exact sealStep_inj_right (sealOn_inj _ h)
  · intro h
    rw [h, List.set_getElem_self]
theorem sealFits_snoc (xs : List (BitVec 64)) (s : BitVec 64) : sealFits (xs ++ [s]) = (s == sealOf xs) := by
  simp [sealFits]
theorem xor_ne_self (a v : BitVec 64) (h : v ≠ 0) : a ^^^ v ≠ a := by
  intro e
  have := congrArg (a ^^^ ·) e
  simp [← BitVec.xor_assoc] at this
  exact h this
/-- Three rows put over one another. -/
def over3 : List (BitVec 64) → List (BitVec 64) → List (BitVec 64) → List (BitVec 64)
  | a :: as, b :: bs, c :: cs => (a ^^^ b ^^^ c) :: over3 as bs cs
  | _, _, _ => []
theorem xor_mix (a b c d e f : BitVec 64) : a ^^^ b ^^^ c ^^^ (d ^^^ e ^^^ f) = (a ^^^ d) ^^^ (b ^^^ e) ^^^ (c ^^^ f) := by
  ac_rfl
theorem sealOn_over (s t u : BitVec 64) : ∀ (as bs cs : List (BitVec 64)), as.length = bs.length → as.length = cs.length →
    sealOn (s ^^^ t ^^^ u) (over3 as bs cs) = sealOn s as ^^^ sealOn t bs ^^^ sealOn u cs := by
  intro as
  induction as generalizing s t u with
  | nil =>
    intro bs cs h1 h2
    cases bs with
    | nil => cases cs with
      | nil => rfl
      | cons _ _ => simp at h2
    | cons _ _ => simp at h1
  | cons a as ih =>
    intro bs cs h1 h2
    cases bs with
    | nil => simp at h1
    | cons b bs =>
      cases cs with
      | nil => simp at h2
      | cons c cs =>
        simp only [over3, sealOn_cons]
        rw [← ih _ _ _ bs cs (by simpa using h1) (by simpa using h2)]
        congr 1
        unfold sealStep
        rw [rotl9_xor, rotl9_xor, xor_mix]
theorem sealOf_over (as bs cs : List (BitVec 64)) (h1 : as.length = bs.length) (h2 : as.length = cs.length) :
    sealOf (over3 as bs cs) = sealOf as ^^^ sealOf bs ^^^ sealOf cs := by
  unfold sealOf
  rw [← sealOn_over _ _ _ as bs cs h1 h2]
  congr 1
theorem over3_length : ∀ (as bs cs : List (BitVec 64)), as.length = bs.length → as.length = cs.length → (over3 as bs cs).length = as.length := by
  intro as
  induction as with
  | nil => intro bs cs _ _; simp [over3]
  | cons a as ih =>
    intro bs cs h1 h2
    cases bs with
    | nil => simp at h1
    | cons b bs =>
      cases cs with
      | nil => simp at h2
      | cons c cs => simp only [over3, List.length_cons]; rw [ih bs cs (by simpa using h1) (by simpa using h2)]
theorem over3_get : ∀ (as bs cs : List (BitVec 64)) (k : Nat) (h : k < (over3 as bs cs).length) (ha : k < as.length) (hb : k < bs.length) (hc : k < cs.length),
    (over3 as bs cs)[k] = as[k] ^^^ bs[k] ^^^ cs[k] := by
  intro as
  induction as with
  | nil => intro bs cs k _ ha; simp at ha
  | cons a as ih =>
    intro bs cs k h ha hb hc
    cases bs with
    | nil => simp at hb
    | cons b bs =>
      cases cs with
      | nil => simp at hc
      | cons c cs =>
        cases k with
        | zero => rfl
        | succ k => simp only [over3, List.getElem_cons_succ]; exact ih bs cs k _ _ _ _
theorem rotl9_form (v : BitVec 64) : v <<< 9 ||| v >>> 55 = v.rotateLeft 9 := rfl
/-- Two words that change places. -/
theorem sealOf_swap (a b : BitVec 64) (rest : List (BitVec 64)) :
    (sealOf (a :: b :: rest) == sealOf (b :: a :: rest)) = (a ^^^ b == (a ^^^ b).rotateLeft 9) := by
  rw [Bool.eq_iff_iff, beq_iff_eq, beq_iff_eq]
  have key : ∀ s : BitVec 64, sealStep (sealStep s a) b = sealStep (sealStep s b) a ↔ a ^^^ b = (a ^^^ b).rotateLeft 9 := by
    intro s
    unfold sealStep
    rw [rotl9_xor (s.rotateLeft 9) a, rotl9_xor (s.rotateLeft 9) b, rotl9_xor a b]
    generalize (s.rotateLeft 9).rotateLeft 9 = t
    generalize a.rotateLeft 9 = p
    generalize b.rotateLeft 9 = q
    constructor
    · intro h
      have h1 : p ^^^ b = q ^^^ a := xor_left_inj (c := t) (by rw [← BitVec.xor_assoc, ← BitVec.xor_assoc]; exact h)
      have h2 := congrArg (fun x => x ^^^ b ^^^ q) h1
      have e1 : p ^^^ b ^^^ b ^^^ q = p ^^^ q := by rw [BitVec.xor_assoc p b b]; simp
      have e2 : q ^^^ a ^^^ b ^^^ q = a ^^^ b := by
        rw [BitVec.xor_comm q a, BitVec.xor_assoc (a), BitVec.xor_comm q b, ← BitVec.xor_assoc, BitVec.xor_assoc (a ^^^ b)]; simp
      rw [e1, e2] at h2
      exact h2.symm
    · intro h
      have h2 := congrArg (fun x => t ^^^ (x ^^^ b ^^^ q)) h
      have e1 : t ^^^ (a ^^^ b ^^^ b ^^^ q) = t ^^^ q ^^^ a := by rw [BitVec.xor_assoc a b b]; simp; ac_rfl
      have e2 : t ^^^ (p ^^^ q ^^^ b ^^^ q) = t ^^^ p ^^^ b := by
        rw [BitVec.xor_assoc p q b, BitVec.xor_comm q b, ← BitVec.xor_assoc p b q, BitVec.xor_assoc (p ^^^ b)]; simp [BitVec.xor_assoc]
      rw [e1, e2] at h2
      exact h2.symm
  unfold sealOf
  rw [sealOn_cons, sealOn_cons, sealOn_cons, sealOn_cons]
  constructor
  · intro h; exact (key _).1 (sealOn_inj _ h)
  · intro h; rw [(key _).2 h]
/-- Where a row is cut, it fits just if its last word is the sum of those ahead. -/
theorem sealFits_take (xs : List (BitVec 64)) (k : Nat) (hk : k < xs.length) : sealFits (xs.take (k + 1)) = (sealOf (xs.take k) == xs[k]) := by
  rw [take_snoc xs k hk, sealFits_snoc, Bool.eq_iff_iff, beq_iff_eq, beq_iff_eq]
  exact eq_comm
end Go.Proofs.Ytoifejinppjeeaa
