/- Slices of writes (a place, a word): what a statement's proof is told of them. Plain laws of writes done. -/
import Derived.Test.YtoifejinppjeeaaFrame
import Derived.Test.YtoifejinppjeeaaGen
import Derived.Lib.SmallJoins
namespace Go.Proofs.Ytoifejinppjeeaa
open Go.ChangeShapes Go.WideShapes Go.ChangeAt Go.RowKit Go.Deep
set_option linter.unusedVariables false
set_option linter.unusedSimpArgs false
/-- A slice whose cells read as these writes. -/
def RdW (w : World) (A : Option Addr) (ws : List (Int × BitVec 64)) : Prop :=
  ws = [] ∨ ∃ b off, A = some ⟨b, off, none⟩ ∧ ∀ k, (h : k < ws.length) → w.cell? ⟨b, off + k * 2, none⟩ = some (.int .i64 ws[k].1) ∧ w.cell? ⟨b, off + k * 2 + 1, none⟩ = some (U ws[k].2)
theorem RdW.below {w w' : World} {A : Option Addr} {ws : List (Int × BitVec 64)} (h : RdW w A ws) (hb : Below w.heap.size w w') : RdW w' A ws := by
  rcases h with h | ⟨b, off, hA, hc⟩
  · exact .inl h
  · exact .inr ⟨b, off, hA, fun k hk => ⟨(hb.cell (p := ⟨b, off + k * 2, none⟩) (cell_lt (hc k hk).1)).trans (hc k hk).1, (hb.cell (p := ⟨b, off + k * 2 + 1, none⟩) (cell_lt (hc k hk).2)).trans (hc k hk).2⟩⟩
theorem RdW.at_ {w : World} {A : Option Addr} {ws : List (Int × BitVec 64)} (h : RdW w A ws) {k : Nat} (hk : k < ws.length) :
    ∃ b off, A = some ⟨b, off, none⟩ ∧ ∀ j, (h : j < ws.length) → w.cell? ⟨b, off + j * 2, none⟩ = some (.int .i64 ws[j].1) ∧ w.cell? ⟨b, off + j * 2 + 1, none⟩ = some (U ws[j].2) := by
  rcases h with h | h
  · rw [h] at hk; simp at hk
  · exact h
section
variable {H : Type} {enc : TypeId × Value → H} {P : Program} {w : World} {base : Nat} {spare : Nat → Bool} {held : Bool}
theorem open_writes_of {t e : TypeId} {f0 f1 : Field} {v : Value} {y : DataW H × List MemPlace} {fuel : Nat} (ht : P.underlying t = some (.slice e)) (he : P.underlying e = some (.struct #[f0, f1])) (hone : oneCellFields P #[f0, f1] = true) (hC : P.cellsOf e = 2)
    (u0 : P.underlying f0.type = some (.int .i64)) (u1 : P.underlying f1.type = some (.int .u64)) (hf : DataW.trod enc P w base spare held fuel t [v] = some y) :
    ∃ (a : Option Addr) (ws : List (Int × BitVec 64)) (c : Nat), v = .slice a ws.length c ∧ (RdW w a ws ∧ ∀ x ∈ ws, -9223372036854775808 ≤ x.1 ∧ x.1 ≤ 9223372036854775807) ∧ ws.length ≤ c ∧ c ≤ maxLen := by
  obtain ⟨a, n, c, hv⟩ := Go.Joins.slice_form ht hf
  obtain rfl : v = .slice a n c := by simpa using hv
  rcases open_slice ht hf with ⟨hcs, _⟩ | ⟨x, len, cap, m, n', D, Pl, hcs, hb, hl, hm, hmm, hx, hi⟩
  · simp [Value.cells] at hcs
    obtain ⟨rfl, rfl, rfl⟩ := hcs
    exact ⟨none, [], 0, rfl, ⟨.inl rfl, by simp⟩, by simp, by simp [maxLen]⟩
  · simp [Value.cells] at hcs
    obtain ⟨rfl, rfl, rfl⟩ := hcs
    have hnm : n ≤ m := by rw [hmm]; split <;> omega
    have key : ∀ i, i < n → ∃ (z : Int) (q : BitVec 64), w.cell? (x.add (i * 2)) = some (.int .i64 z) ∧ w.cell? (x.add (i * 2 + 1)) = some (U q) ∧ -9223372036854775808 ≤ z ∧ z ≤ 9223372036854775807 := by
      intro i hin
      obtain ⟨cs', hc, ht'⟩ := hi i (by omega)
      rw [hC] at hc
      obtain ⟨ys, n2, _, hy, hlen, hyl, hg⟩ := DataW.trod_struct he ht'
      obtain ⟨_, hcl, hat⟩ := World.cells?_some hc
      obtain ⟨o0, k0⟩ := hone_of hone 0 f0 rfl
      obtain ⟨o1, k1⟩ := hone_of hone 1 f1 rfl
      rw [hC] at hlen
      match cs', hlen with
      | [c0, c1], _ =>
        match ys, hyl with
        | [y0, y1], _ =>
          have g0 := hg 0 f0 rfl
          have g1 := hg 1 f1 rfl
          rw [o0, k0] at g0
          rw [o1, k1] at g1
          have g0 : DataW.trod enc P w base spare held n2 f0.type [c0] = some y0 := g0
          have g1 : DataW.trod enc P w base spare held n2 f1.type [c1] = some y1 := g1
          obtain ⟨z, e0, _, w0⟩ := DataW.trod_int u0 g0
          obtain ⟨q, e1, _, w1⟩ := DataW.trod_int u1 g1
          obtain rfl : c0 = .int .i64 z := by simpa using e0
          obtain rfl : c1 = .int .u64 q := by simpa using e1
          obtain ⟨q', hq⟩ := word_of w1
          have a0 := hat 0 (by omega)
          have a1 := hat 1 (by omega)
          rw [Go.Deep.add_add, Nat.add_zero] at a0
          rw [Go.Deep.add_add] at a1
          exact ⟨z, q', a0, by rw [a1, ← hq]; rfl, bd_int w0⟩
    by_cases hn : n = 0
    · subst hn
      exact ⟨some x, [], c, rfl, ⟨.inl rfl, by simp⟩, by simp, hm⟩
    · obtain ⟨z0, q0, h0, _⟩ := key 0 (by omega)
      obtain ⟨b, off, spot⟩ := x
      have hspot : spot = none := by simpa [Addr.add] using World.cell?_spot h0
      subst hspot
      simp only [Addr.add_lit, ← Nat.add_assoc] at key
      let ws : List (Int × BitVec 64) := (List.range n).attach.map fun i => ((key i.1 (List.mem_range.1 i.2)).choose, (key i.1 (List.mem_range.1 i.2)).choose_spec.choose)
      have hwl : ws.length = n := by simp [ws]
      have hat : ∀ i (h : i < ws.length), w.cell? ⟨b, off + i * 2, none⟩ = some (.int .i64 ws[i].1) ∧ w.cell? ⟨b, off + i * 2 + 1, none⟩ = some (U ws[i].2) ∧ -9223372036854775808 ≤ ws[i].1 ∧ ws[i].1 ≤ 9223372036854775807 := by
        intro i h
        have hin : i < n := by omega
        have hs := (key i hin).choose_spec.choose_spec
        have e : ws[i] = ((key i hin).choose, (key i hin).choose_spec.choose) := by simp [ws]
        rw [e]
        exact hs
      refine ⟨some ⟨b, off, none⟩, ws, c, by rw [hwl], ⟨.inr ⟨b, off, rfl, fun k hk => ⟨(hat k hk).1, (hat k hk).2.1⟩⟩, fun y hy => ?_⟩, by omega, hm⟩
      obtain ⟨i, hi2, rfl⟩ := List.getElem_of_mem hy
      exact (hat i hi2).2.2
theorem open_writes {t e : TypeId} {f0 f1 : Field} {r : Reach} {b0 : Nat} {v : Value} {d : DataW H} {p : List MemPlace} (ht : P.underlying t = some (.slice e)) (he : P.underlying e = some (.struct #[f0, f1])) (hone : oneCellFields P #[f0, f1] = true) (hC : P.cellsOf e = 2)
    (u0 : P.underlying f0.type = some (.int .i64)) (u1 : P.underlying f1.type = some (.int .u64))
    (hv : Value.okWide P w r b0 t v) (h : DataW.Trod enc P w base spare held t v d p) :
    ∃ (a : Option Addr) (ws : List (Int × BitVec 64)) (c : Nat), v = .slice a ws.length c ∧ (RdW w a ws ∧ ∀ x ∈ ws, -9223372036854775808 ≤ x.1 ∧ x.1 ≤ 9223372036854775807) ∧ ws.length ≤ c ∧ c ≤ maxLen := by
  obtain ⟨a, n, c, rfl⟩ := okWide_slice ht hv
  obtain ⟨fuel, hf⟩ := h
  exact open_writes_of ht he hone hC u0 u1 (by simpa [Value.cells] using hf)
end
/-- One write done; all of them; the last one to a place. -/
def doOne (xs : List (BitVec 64)) (x : Int × BitVec 64) : List (BitVec 64) := if 0 ≤ x.1 ∧ x.1 < (xs.length : Int) then xs.set x.1.toNat x.2 else xs
def doW (xs : List (BitVec 64)) (ws : List (Int × BitVec 64)) : List (BitVec 64) := ws.foldl doOne xs
def lastV (v : BitVec 64) (ws : List (Int × BitVec 64)) (i : Nat) : BitVec 64 := ws.foldl (fun v x => if x.1 = (i : Int) then x.2 else v) v
theorem doOne_len (xs : List (BitVec 64)) (x : Int × BitVec 64) : (doOne xs x).length = xs.length := by
  unfold doOne
  split <;> simp
theorem doW_len : ∀ (ws : List (Int × BitVec 64)) (xs : List (BitVec 64)), (doW xs ws).length = xs.length
  | [], _ => rfl
  | x :: ws, xs => by
    show (doW (doOne xs x) ws).length = _
    rw [doW_len ws, doOne_len]
theorem doW_take (xs : List (BitVec 64)) (ws : List (Int × BitVec 64)) (k : Nat) (h : k < ws.length) : doW xs (ws.take (k + 1)) = doOne (doW xs (ws.take k)) ws[k] := by
  unfold doW
  rw [List.take_add_one, List.foldl_append, List.getElem?_eq_getElem h]
  rfl
theorem lastV_take (v : BitVec 64) (ws : List (Int × BitVec 64)) (i k : Nat) (h : k < ws.length) : lastV v (ws.take (k + 1)) i = if ws[k].1 = (i : Int) then ws[k].2 else lastV v (ws.take k) i := by
  unfold lastV
  rw [List.take_add_one, List.foldl_append, List.getElem?_eq_getElem h]
  rfl
theorem doOne_get {xs : List (BitVec 64)} (x : Int × BitVec 64) {i : Nat} {v : BitVec 64} (h : xs[i]? = some v) : (doOne xs x)[i]? = some (if x.1 = (i : Int) then x.2 else v) := by
  have hi : i < xs.length := (List.getElem?_eq_some_iff.1 h).1
  unfold doOne
  split
  · rename_i hx
    obtain ⟨m, hm⟩ := Int.eq_ofNat_of_zero_le hx.1
    rw [List.getElem?_set, hm, Int.toNat_natCast]
    by_cases e : m = i
    · subst e
      rw [if_pos rfl, if_pos hi, if_pos rfl]
    · rw [if_neg e, if_neg (by omega), h]
  · rename_i hx
    rw [if_neg (fun e => hx (by omega)), h]
theorem doW_get : ∀ (ws : List (Int × BitVec 64)) {xs : List (BitVec 64)} {i : Nat} {v : BitVec 64}, xs[i]? = some v → (doW xs ws)[i]? = some (lastV v ws i)
  | [], _, _, _, h => h
  | x :: ws, xs, i, v, h => doW_get ws (doOne_get x h)
theorem lastV_const (i : Nat) : ∀ ws : List (Int × BitVec 64), (∀ v, lastV v ws i = v) ∨ ∃ c, ∀ v, lastV v ws i = c
  | [] => .inl fun _ => rfl
  | x :: ws => by
    by_cases e : x.1 = (i : Int)
    · right
      exact ⟨lastV x.2 ws i, fun v => by show lastV (if x.1 = (i : Int) then x.2 else v) ws i = _; rw [if_pos e]⟩
    · rcases lastV_const i ws with h | ⟨c, h⟩
      · left
        intro v
        show lastV (if x.1 = (i : Int) then x.2 else v) ws i = _
        rw [if_neg e, h]
      · right
        refine ⟨c, fun v => ?_⟩
        show lastV (if x.1 = (i : Int) then x.2 else v) ws i = _
        rw [h]
/-- Done twice is done once. -/
theorem doW_twice (xs : List (BitVec 64)) (ws : List (Int × BitVec 64)) : doW (doW xs ws) ws = doW xs ws := by
  apply List.ext_getElem?
  intro i
  by_cases hi : i < xs.length
  · have h1 := doW_get ws (List.getElem?_eq_getElem hi)
    rw [h1, doW_get ws h1]
    rcases lastV_const i ws with h | ⟨c, h⟩
    · rw [h]
    · rw [h, h]
  · rw [List.getElem?_eq_none (by rw [doW_len, doW_len]; omega), List.getElem?_eq_none (by rw [doW_len]; omega)]
end Go.Proofs.Ytoifejinppjeeaa
