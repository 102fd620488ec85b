/- When a node may be, in plain Lean. No condition. -/
import Derived.Test.YtgkojedgamglgaaNodeLaw
import Derived.Test.YtgkojedgamglgaaGeomNode
namespace Go.Proofs.Ytgkojedgamglgaa
set_option linter.unusedVariables false
set_option linter.unusedSimpArgs false
/-- Where the lost slots stand. -/
def Geo.lf (g : Geo) : Int := g.fr + g.bn + g.n
/-- Within the data; apart from each of these. -/
def inDt (g : Geo) (r : Rn) : Bool := decide (1 ≤ r.2) && decide (g.df ≤ r.1) && decide (r.1 - g.df < g.dn) && decide (r.2 ≤ g.dn - (r.1 - g.df))
def apartQ (r q : Rn) : Bool := !(decide (r.1 < q.1 + q.2) && decide (q.1 < r.1 + r.2))
def placedTo (g : Geo) (rs : List Rn) : Nat → Bool
  | 0 => true
  | k + 1 => placedTo g rs k && (inDt g (rs.getD k (0, 0)) && (rs.take k).all (apartQ (rs.getD k (0, 0))))
def isLost (g : Geo) (n : NodeN) (rs : List Rn) : Bool := decide (n.t = 2) && (rs == [(g.lf, g.n)])
def placedB (g : Geo) (n : NodeN) (rs : List Rn) : Bool := isLost g n rs || placedTo g rs rs.length
def sumTo (rs : List Rn) : Nat → Int
  | 0 => 0
  | k + 1 => IntKind.i64.wrap (sumTo rs k + (rs.getD k (0, 0)).2)
def sumR (rs : List Rn) : Int := sumTo rs rs.length
def needsN (n : NodeN) : Int := if n.s < 0 then 0 else if n.t = 2 then n.s else if n.t = 1 ∨ n.t = 3 then n.s / 64 + (if n.s % 64 ≤ 1 then n.s % 64 else 1) else 0
def sizedB (g : Geo) (n : NodeN) : Bool := if n.t = 1 then inB n.s 0 4096 else if n.t = 2 then inB n.s 0 (if g.b ≤ 4096 then g.b else 4096) else inB n.s 1 400
def goodN (g : Geo) (n : NodeN) (rs : List Rn) : Bool :=
  g.good && (if n.t = 0 then nfreeB n rs else inB n.t 1 3 && inB n.l 1 200 && sizedB g n && decide (rs.length ≤ 4) && placedB g n rs && (sumR rs == needsN n))
theorem getD_lt {rs : List Rn} {k : Nat} (h : k < rs.length) : rs.getD k (0, 0) = rs[k] := by
  rw [List.getD_eq_getElem?_getD, List.getElem?_eq_getElem h]; rfl
theorem inDt_iff (g : Geo) (r : Rn) : inDt g r = true ↔ 1 ≤ r.2 ∧ g.df ≤ r.1 ∧ r.1 - g.df < g.dn ∧ r.2 ≤ g.dn - (r.1 - g.df) := by
  unfold inDt
  simp [and_assoc]
theorem placedTo_mem {g : Geo} {rs : List Rn} : ∀ {k : Nat}, placedTo g rs k = true → ∀ j (hj : j < k) (hl : j < rs.length), inDt g rs[j] = true
  | 0, _, j, hj, _ => by omega
  | k + 1, h, j, hj, hl => by
    simp only [placedTo, Bool.and_eq_true] at h
    by_cases e : j = k
    · subst e
      rw [← getD_lt hl]
      exact h.2.1
    · exact placedTo_mem h.1 j (by omega) hl
theorem placedTo_less {g : Geo} {rs : List Rn} {m : Nat} : ∀ {k : Nat}, m ≤ k → placedTo g rs k = true → placedTo g rs m = true
  | 0, hm, h => by
    obtain rfl : m = 0 := by omega
    exact h
  | k + 1, hm, h => by
    by_cases e : m = k + 1
    · rw [e]; exact h
    · simp only [placedTo, Bool.and_eq_true] at h
      exact placedTo_less (by omega) h.1
theorem geo_nums {g : Geo} (h : g.good = true) : 0 ≤ g.df ∧ g.df ≤ 1024 ∧ 1 ≤ g.dn ∧ g.dn ≤ 1024 ∧ g.df + g.dn ≤ 1024 ∧ 0 ≤ g.lf ∧ g.lf ≤ 1024 ∧ 4 ≤ g.n ∧ g.n ≤ 64 ∧ g.lf = g.df - g.n := by
  obtain ⟨hIn, hdn⟩ := (Geo.good_iff g).1 h
  obtain ⟨p1, p2⟩ := hIn.prod
  obtain ⟨h1, h2, h3, h4, h5, h6, h7, h8⟩ := hIn
  have e1 : g.dn = g.b - 1 - g.df := rfl
  have e2 : g.df = g.fr + g.bn + 2 * g.n := rfl
  have e3 : g.fr = 1 + g.c * g.k := rfl
  have e4 : g.bn = (g.b + 511) / 512 := rfl
  have e5 : g.lf = g.fr + g.bn + g.n := rfl
  omega
/-- What may be fits its words. -/
theorem good_fits {g : Geo} {n : NodeN} {rs : List Rn} (h : goodN g n rs = true) : fitsB n rs = true := by
  unfold goodN at h
  simp only [Bool.and_eq_true] at h
  obtain ⟨hg, h⟩ := h
  obtain ⟨k1, k2, k3, k4, k5, k6, k7, k8, k9, k10⟩ := geo_nums hg
  unfold fitsB
  by_cases ht : n.t = 0
  · rw [if_pos ht] at h ⊢
    exact h
  · rw [if_neg ht] at h ⊢
    simp only [Bool.and_eq_true, inB, decide_eq_true_eq] at h
    obtain ⟨⟨⟨⟨⟨h1, h2⟩, h3⟩, h4⟩, h5⟩, h6⟩ := h
    have hs : 0 ≤ n.s ∧ n.s ≤ 4096 := by
      unfold sizedB at h3
      split at h3
      · simpa [inB] using h3
      · split at h3
        · simp [inB] at h3
          split at h3 <;> omega
        · simp [inB] at h3
          omega
    have hr : rs.any badR = false := by
      rw [List.any_eq_false]
      intro r hr
      have key : (0 ≤ r.1 ∧ r.1 ≤ 1024) ∧ (1 ≤ r.2 ∧ r.2 ≤ 1024) := by
        unfold placedB isLost at h5
        rw [Bool.or_eq_true] at h5
        rcases h5 with h5 | h5
        · simp only [Bool.and_eq_true] at h5
          have e := eq_of_beq h5.2
          rw [e] at hr
          simp at hr
          subst hr
          simp only
          omega
        · obtain ⟨j, hj, rfl⟩ := List.getElem_of_mem hr
          have := (inDt_iff g _).1 (placedTo_mem h5 j hj hj)
          omega
      simp [badR, inB]
      omega
    rw [hr]
    simp [inB]
    omega
theorem good_sums {g : Geo} {n : NodeN} {rs : List Rn} (h : goodN g n rs = true) : sumR rs = needsN n := by
  have hf := good_fits h
  unfold goodN at h
  simp only [Bool.and_eq_true] at h
  by_cases ht : n.t = 0
  · obtain ⟨rfl, rfl⟩ := free_of_fits hf ht
    rfl
  · rw [if_neg ht] at h
    simp only [Bool.and_eq_true] at h
    exact eq_of_beq h.2.2
end Go.Proofs.Ytgkojedgamglgaa
