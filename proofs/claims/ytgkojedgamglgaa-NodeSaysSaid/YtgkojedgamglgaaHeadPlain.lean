/- The head's words of chapter 7, in plain Lean. No condition. -/
import Derived.Test.YtgkojedgamglgaaSealPlain2
import Derived.Test.YtgkojedgamglgaaGeom
namespace Go.Proofs.Ytgkojedgamglgaa
set_option linter.unusedVariables false
set_option linter.unusedSimpArgs false
def w64 (n : Int) : BitVec 64 := BitVec.ofInt 64 n
theorem w64_toNat {n : Int} (h0 : 0 ≤ n) (h1 : n < 18446744073709551616) : ((w64 n).toNat : Int) = n := by
  unfold w64
  rw [BitVec.toNat_ofInt]
  omega
theorem w64_of (v : BitVec 64) : w64 (v.toNat : Int) = v := by
  unfold w64
  apply BitVec.eq_of_toNat_eq
  rw [BitVec.toNat_ofInt]
  have := v.isLt
  omega
def headM : BitVec 64 := 0x4c494e54454c0001#64
/-- The sealed words; all words of a head; the geometry and the phase that eight words tell. -/
def headL (g : Geo) : List (BitVec 64) := [headM, w64 g.b, w64 g.n, w64 g.c, w64 g.k, 0#64]
def headW (g : Geo) (p : BitVec 64) : List (BitVec 64) := if g.good = true then headL g ++ [p, sealOf (headL g)] else []
def geoW (l : List (BitVec 64)) : Geo := ⟨(l.getD 1 0).toNat, (l.getD 2 0).toNat, (l.getD 3 0).toNat, (l.getD 4 0).toNat⟩
def smallW (l : List (BitVec 64)) : Bool := ((l.drop 1).take 5).all (fun v => decide (v.toNat ≤ 1024))
def headOk (l : List (BitVec 64)) : Bool := decide (l.length = 8) && smallW l && decide (headW (geoW l) (l.getD 6 0) = l)
theorem headW_len (g : Geo) (p : BitVec 64) : (headW g p).length = if g.good = true then 8 else 0 := by
  unfold headW
  split <;> rfl
theorem headW_good {g : Geo} {p : BitVec 64} (h : g.good = true) : headW g p = [headM, w64 g.b, w64 g.n, w64 g.c, w64 g.k, 0#64, p, sealOf (headL g)] := by
  unfold headW
  rw [if_pos h]
  rfl
theorem headW_bad {g : Geo} {p : BitVec 64} (h : ¬ g.good = true) : headW g p = [] := by
  unfold headW
  rw [if_neg h]
theorem geoW_head {g : Geo} (h : g.good = true) (p s z m : BitVec 64) : geoW [m, w64 g.b, w64 g.n, w64 g.c, w64 g.k, z, p, s] = g := by
  obtain ⟨h1, h2, h3, h4, h5, h6, h7, h8⟩ := ((Geo.good_iff g).1 h).1
  obtain ⟨b, n, c, k⟩ := g
  simp only at *
  unfold geoW
  simp only [List.getD_cons_succ, List.getD_cons_zero]
  rw [w64_toNat (by omega) (by omega), w64_toNat (by omega) (by omega), w64_toNat (by omega) (by omega), w64_toNat (by omega) (by omega)]
theorem small_head {g : Geo} (h : g.good = true) (p s m : BitVec 64) : smallW [m, w64 g.b, w64 g.n, w64 g.c, w64 g.k, 0#64, p, s] = true := by
  obtain ⟨h1, h2, h3, h4, h5, h6, h7, h8⟩ := ((Geo.good_iff g).1 h).1
  have e1 := w64_toNat (n := g.b) (by omega) (by omega)
  have e2 := w64_toNat (n := g.n) (by omega) (by omega)
  have e3 := w64_toNat (n := g.c) (by omega) (by omega)
  have e4 := w64_toNat (n := g.k) (by omega) (by omega)
  unfold smallW
  simp only [List.drop_succ_cons, List.drop_zero, List.take_succ_cons, List.take_zero, List.all_cons, List.all_nil, Bool.and_true, Bool.and_eq_true, decide_eq_true_eq]
  refine ⟨by omega, by omega, by omega, by omega, by decide⟩
/-- What was put is read. -/
theorem headOk_back {g : Geo} (h : g.good = true) (p : BitVec 64) : headOk (headW g p) = true ∧ geoW (headW g p) = g ∧ (headW g p).getD 6 0 = p := by
  have e := headW_good (p := p) h
  have e2 := geoW_head h p (sealOf (headL g)) 0#64 headM
  have e3 := small_head h p (sealOf (headL g)) headM
  have e6 : ([headM, w64 g.b, w64 g.n, w64 g.c, w64 g.k, 0#64, p, sealOf (headL g)] : List (BitVec 64)).getD 6 0 = p := rfl
  rw [e]
  refine ⟨?_, e2, rfl⟩
  unfold headOk
  rw [e2, e3, e6, e]
  simp
theorem headW_parts {g : Geo} {p a0 a1 a2 a3 a4 a5 a6 a7 : BitVec 64} (h : headW g p = [a0, a1, a2, a3, a4, a5, a6, a7]) : g.good = true ∧ a0 = headM ∧ a5 = 0#64 ∧ a6 = p ∧ a7 = sealOf [a0, a1, a2, a3, a4, a5] := by
  by_cases hg : g.good = true
  · rw [headW_good hg] at h
    simp only [List.cons.injEq, and_true] at h
    obtain ⟨rfl, rfl, rfl, rfl, rfl, rfl, rfl, rfl⟩ := h
    exact ⟨hg, rfl, rfl, rfl, rfl⟩
  · rw [headW_bad hg] at h
    cases h
/-- Eight words of which one is another. -/
theorem headOk_one {g : Geo} (h : g.good = true) (p v : BitVec 64) (hv : v ≠ 0#64) (k : Nat) (hk : k < 8) :
    headOk ((headW g p).set k ((headW g p).getD k 0 ^^^ v)) = decide (k = 6) ∧ (k = 6 → (headW g p).set k ((headW g p).getD k 0 ^^^ v) = headW g (p ^^^ v)) := by
  by_cases h6 : k = 6
  · subst h6
    have e : (headW g p).set 6 ((headW g p).getD 6 0 ^^^ v) = headW g (p ^^^ v) := by rw [headW_good h, headW_good h]; rfl
    exact ⟨by rw [e, (headOk_back h _).1]; rfl, fun _ => e⟩
  · refine ⟨?_, fun hh => absurd hh h6⟩
    rw [decide_eq_false h6]
    cases hb : headOk ((headW g p).set k ((headW g p).getD k 0 ^^^ v)) with
    | false => rfl
    | true =>
      exfalso
      unfold headOk at hb
      simp only [Bool.and_eq_true, decide_eq_true_eq] at hb
      have hE := hb.2
      clear hb
      have hx : ∀ a : BitVec 64, a ^^^ v = a → False := fun a e => xor_ne_self a v hv e
      have hS : sealOf (headL g) = sealOf [headM, w64 g.b, w64 g.n, w64 g.c, w64 g.k, 0#64] := rfl
      generalize geoW ((headW g p).set k ((headW g p).getD k 0 ^^^ v)) = g' at hE
      generalize ((headW g p).set k ((headW g p).getD k 0 ^^^ v)).getD 6 0 = p' at hE
      rw [headW_good h] at hE
      have hseal : ∀ j, (hj : j < 6) → sealOf ([headM, w64 g.b, w64 g.n, w64 g.c, w64 g.k, 0#64].set j (([headM, w64 g.b, w64 g.n, w64 g.c, w64 g.k, 0#64] : List (BitVec 64))[j] ^^^ v)) ≠ sealOf (headL g) := fun j hj e =>
        hx _ ((sealOf_set [headM, w64 g.b, w64 g.n, w64 g.c, w64 g.k, 0#64] j hj _).1 e)
      match k, hk, h6, hE with
      | 0, _, _, hE => exact hx _ (headW_parts hE).2.1
      | 1, _, _, hE => exact hseal 1 (by decide) (headW_parts hE).2.2.2.2.symm
      | 2, _, _, hE => exact hseal 2 (by decide) (headW_parts hE).2.2.2.2.symm
      | 3, _, _, hE => exact hseal 3 (by decide) (headW_parts hE).2.2.2.2.symm
      | 4, _, _, hE => exact hseal 4 (by decide) (headW_parts hE).2.2.2.2.symm
      | 5, _, _, hE => exact hx _ (headW_parts hE).2.2.1
      | 6, _, h6, _ => exact h6 rfl
      | 7, _, _, hE => exact hx _ (headW_parts hE).2.2.2.2
/-- Words that are a head's are small, of themselves. -/
theorem headW_self {l : List (BitVec 64)} {p : BitVec 64} (h : headW (geoW l) p = l) (hl : l.length = 8) : smallW l = true ∧ (geoW l).good = true ∧ l.getD 6 0 = p := by
  match l, hl with
  | [a0, a1, a2, a3, a4, a5, a6, a7], _ =>
    obtain ⟨hg, h0, h5, h6, h7⟩ := headW_parts h
    subst h0 h5 h6
    refine ⟨?_, hg, rfl⟩
    obtain ⟨h1, h2, h3, h4, k5, k6, k7, k8⟩ := ((Geo.good_iff _).1 hg).1
    simp only [geoW, List.getD_cons_succ, List.getD_cons_zero] at *
    unfold smallW
    simp only [List.drop_succ_cons, List.drop_zero, List.take_succ_cons, List.take_zero, List.all_cons, List.all_nil, Bool.and_true, Bool.and_eq_true, decide_eq_true_eq]
    refine ⟨by omega, by omega, by omega, by omega, by decide⟩
end Go.Proofs.Ytgkojedgamglgaa
