/- Memory of the call's own: slices that it owns and appends to, and what other calls leave of them. No condition. -/
import Derived.Test.YtfdngdnnjmcigaaWords
import Derived.Maps.AppendAt
import Derived.Deep.OwnShut
import Derived.Orders
namespace Go.Proofs.Ytfdngdnnjmcigaa
open Go.RowKit
set_option linter.unusedVariables false

/-- The walk stands still before this. -/
def Stop (p : Prop) : Prop := p
theorem stop_ {p : Prop} (h : Stop p) : p := h

/-- The cells from address A on are cs. -/
def Rd (w : World) (A : Option Addr) (cs : List Value) : Prop :=
  cs = [] ∨ ∃ b off, A = some ⟨b, off, none⟩ ∧ ∀ k, (h : k < cs.length) → w.cell? ⟨b, off + k, none⟩ = some cs[k]
theorem Rd.below {w w' : World} {A : Option Addr} {cs : List Value} (h : Rd w A cs) (hb : Below w.heap.size w w') : Rd w' A cs := by
  rcases h with h | ⟨b, off, hA, hc⟩
  · exact .inl h
  · exact .inr ⟨b, off, hA, fun k hk => (hb.cell (p := ⟨b, off + k, none⟩) (cell_lt (hc k hk))).trans (hc k hk)⟩
theorem RdU.rd {w : World} {A : Option Addr} {xs : List (BitVec 64)} (h : RdU w A xs) : Rd w A (xs.map U) := by
  rcases h with h | ⟨b, off, hA, hc⟩
  · left; rw [h]; rfl
  · exact .inr ⟨b, off, hA, fun k hk => by rw [hc k (by simpa using hk)]; simp⟩
theorem Rd.words {w : World} {A : Option Addr} {xs : List (BitVec 64)} (h : Rd w A (xs.map U)) : RdU w A xs := by
  rcases h with h | ⟨b, off, hA, hc⟩
  · left; exact List.map_eq_nil_iff.1 h
  · exact .inr ⟨b, off, hA, fun k hk => by rw [hc k (by simpa using hk)]; simp⟩
theorem Rd.nil_ {w : World} {A : Option Addr} : Rd w A [] := .inl rfl

def blk (A : Option Addr) : Option Nat := A.map (·.block)
theorem ownBlock_slice (A : Option Addr) (n c : Nat) : (Value.slice A n c).ownBlock = blk A := by cases A <;> rfl

section
variable {w w' : World} {base : Nat} {e : TypeId} {size n c : Nat} {A : Option Addr} {cs : List Value}
theorem own_rd (h : w.ownsRow base e size (.slice A n c) n cs) : Rd w A cs := by
  rcases h.2 with ⟨hv, hn⟩ | ⟨g, cap, cur, hv, _, hg, _, _, _, ht⟩
  · left; apply List.eq_nil_of_length_eq_zero; rw [h.1, hn, Nat.zero_mul]
  · injection hv with hA _ hc
    subst hA
    refine .inr ⟨g, 0, rfl, fun k hk => ?_⟩
    rw [cell_of_row w g (0 + k) cur e (0, 0) hg]
    have : cs[k]? = some cs[k] := List.getElem?_eq_getElem hk
    rw [← this, ← ht, List.getElem?_take_of_lt (by rw [← h.1]; exact hk)]
    simp
theorem own_cap (h : w.ownsRow base e size (.slice A n c) n cs) : n ≤ c ∧ c ≤ maxLen := by
  rcases h.2 with ⟨hv, hn⟩ | ⟨g, cap, cur, hv, _, _, h1, h2, _⟩
  · injection hv with _ _ hc; subst hc; exact ⟨by omega, by simp [maxLen]⟩
  · injection hv with _ _ hc; subst hc; exact ⟨h1, h2⟩
theorem own_lt (h : w.ownsRow base e size (.slice A n c) n cs) : ∀ k, blk A = some k → base ≤ k ∧ k < w.heap.size := by
  have := h.lt
  rw [ownBlock_slice] at this
  exact this
theorem own_below (h : w.ownsRow base e size (.slice A n c) n cs) (hb : Below w.heap.size w w') : w'.ownsRow base e size (.slice A n c) n cs := by
  refine ⟨h.1, ?_⟩
  rcases h.2 with hn | ⟨g, cap, cur, hv, hg, hh, r⟩
  · exact .inl hn
  · exact .inr ⟨g, cap, cur, hv, hg, by rw [hb.block g (Array.getElem?_eq_some_iff.1 hh).1]; exact hh, r⟩
/-- Another row has been written, or new blocks made. -/
theorem own_kept {row : Option Nat} (h : w.ownsRow base e size (.slice A n c) n cs) (hg : w.grownBy w' row) (hne : blk A = none ∨ blk A ≠ row) : w'.ownsRow base e size (.slice A n c) n cs :=
  h.kept hg (by rw [ownBlock_slice]; exact hne)
theorem own_form (h : w.ownsRow base e size (.slice A n c) n cs) (hn : 0 < n) : ∃ g, A = some ⟨g, 0, none⟩ ∧ base ≤ g ∧ g < w.heap.size := by
  rcases h.2 with ⟨_, h0⟩ | ⟨g, cap, cur, hv, hb, hg, _⟩
  · omega
  · injection hv with hA
    exact ⟨g, hA, hb, (Array.getElem?_eq_some_iff.1 hg).1⟩
theorem Rd.kept {row : Option Nat} {B : Nat} (h : Rd w A cs) (hg : w.grownBy w' row) (hr : ∀ k, row = some k → B ≤ k) (hA : ∀ k, blk A = some k → k < B) : Rd w' A cs := by
  rcases h with h | ⟨b, off, hA', hc⟩
  · exact .inl h
  · refine .inr ⟨b, off, hA', fun k hk => ?_⟩
    refine (World.cell?_of_block (hg.block b (cell_lt (hc k hk)) ?_)).trans (hc k hk)
    intro e
    have h1 := hr b e.symm
    have h2 := hA b (by rw [hA']; rfl)
    omega
end
/-- A row that a call or an append has written lies from B on: what was below B is as it was. -/
theorem below_grown {B : Nat} {a w w' : World} {A : Option Addr} (h : Below B a w) (hg : w.grownBy w' (blk A)) (hB : B ≤ w.heap.size) (hr : ∀ k, blk A = some k → B ≤ k) : Below B a w' :=
  h.grown hg hB hr

section
variable {P : Program} {w : World}
theorem run_app (base : Nat) (t ty e : TypeId) (i : TypeInfo) (z : Value) (size bytes : Nat) (ht : P.underlying t = some (.slice e)) (hi : P.info? e = some i) (hz : i.zero = some z)
    (hsize : i.size = size) (hby : i.bytes = bytes) (hzs : z.cells.size = size) (hsz : 0 < size) (hbp : 0 < bytes)
    (A : Option Addr) (n c : Nat) (cs : List Value) (hown : w.ownsRow base e size (.slice A n c) n cs)
    (A2 : Option Addr) (m c2 : Nat) (news : List Value) (hl : news.length = m * size) (hr : Rd w A2 news) (h1 : ∀ u ∈ news, u.oneCell' = true)
    (hb : (n + m) * bytes ≤ 140737488355328) (hbase : base ≤ w.heap.size) :
    ∃ A' c' w', (Builtin.append_ #[t, t] ty #[.slice A n c, .slice A2 m c2]).run P w = .ok (.slice A' (n + m) c') w' ∧ w'.ownsRow base e size (.slice A' (n + m) c') (n + m) (cs ++ news) ∧
      w.grownBy w' (blk A) ∧ (blk A' = blk A ∨ blk A' = some w.heap.size) := by
  have hm : n + m ≤ maxLen := by
    have : n + m ≤ (n + m) * bytes := Nat.le_mul_of_pos_right _ hbp
    simp only [maxLen]; omega
  have key : ∃ v' w', (Builtin.append_ #[t, t] ty #[.slice A n c, .slice A2 m c2]).run P w = .ok v' w' ∧ w'.ownsRow base e size v' (n + m) (cs ++ news) ∧
      w.grownBy w' (Value.ownBlock (.slice A n c)) ∧ (v'.ownBlock = (Value.slice A n c).ownBlock ∨ v'.ownBlock = some w.heap.size) := by
    rcases hr with h0 | ⟨b, off, rfl, hc⟩
    · have hm0 : m = 0 := by
        rw [h0] at hl
        rcases Nat.eq_zero_or_pos m with h | h
        · exact h
        · have := Nat.mul_pos h hsz
          simp at hl; omega
      subst hm0
      subst h0
      refine ⟨.slice A n c, w, ?_, by simpa using hown, ⟨rfl, rfl, rfl, Nat.le_refl _, fun _ _ _ => rfl⟩, .inl rfl⟩
      rcases hown.2 with ⟨hv, h0⟩ | ⟨g, cap, cur, hv, _, _, hnc, _⟩
      · injection hv with ha _ hc
        subst ha hc h0
        simp [Builtin.append_, run_underlying ht, sizeOf, typeInfo, hi, Builtin.lenOf, Builtin.firstCells]
        cases A2 <;> simp [loadCells, loadCellsFrom]
      · injection hv with ha _ hc
        subst ha hc
        simp [Builtin.append_, run_underlying ht, sizeOf, typeInfo, hi, Builtin.lenOf, Builtin.firstCells, hnc]
        cases A2 <;> simp [loadCells, loadCellsFrom, storeCells]
    · obtain ⟨v', w', hrun, h2, h3, _, h5⟩ := run_append_own_at (P := P) w base t ty e i z size bytes ht hi hz hsize hby hzs hsz _ n cs hown ⟨b, off, none⟩ m c2 news hl
        (fun j u hu => by
          have hj : j < news.length := by
            rcases Nat.lt_or_ge j news.length with h | h
            · exact h
            · rw [List.getElem?_eq_none h] at hu; cases hu
          rw [Addr.add_lit, hc j hj, ← List.getElem?_eq_getElem hj, hu]) h1 hm hb hbase
      exact ⟨v', w', hrun, h2, h3, h5⟩
  obtain ⟨v', w', hrun, h2, h3, h4⟩ := key
  have hform : ∃ A' c', v' = .slice A' (n + m) c' := by
    rcases h2.2 with ⟨hv, h0⟩ | ⟨g, cap, cur, hv, _⟩
    · exact ⟨none, 0, by rw [h0]; exact hv⟩
    · exact ⟨_, _, hv⟩
  obtain ⟨A', c', rfl⟩ := hform
  rw [ownBlock_slice, ownBlock_slice] at h4
  rw [ownBlock_slice] at h3
  exact ⟨A', c', w', hrun, h2, h3, h4⟩

theorem wp_app {o : Oper} {a : Act} {K : Act → World → Prop} {Q : Exit → Act → World → Prop} (s x : Operand) (t : TypeId)
    (ho : o.op = .call { callee := .builtin .append, args := #[s, x], argTypes := #[t, t] })
    (base : Nat) (e : TypeId) (i : TypeInfo) (z : Value) (size bytes : Nat) (ht : P.underlying t = some (.slice e)) (hi : P.info? e = some i) (hz : i.zero = some z)
    (hsize : i.size = size) (hby : i.bytes = bytes) (hzs : z.cells.size = size) (hsz : 0 < size) (hbp : 0 < bytes)
    (A : Option Addr) (n c : Nat) (cs : List Value) (hs : a.eval s = .slice A n c) (hown : w.ownsRow base e size (.slice A n c) n cs)
    (A2 : Option Addr) (m c2 : Nat) (news : List Value) (hx : a.eval x = .slice A2 m c2) (hl : news.length = m * size) (hr : Rd w A2 news) (h1 : ∀ u ∈ news, u.oneCell' = true)
    (hb : (n + m) * bytes ≤ 140737488355328) (hbase : base ≤ w.heap.size)
    (h : ∀ A' c' w', w'.ownsRow base e size (.slice A' (n + m) c') (n + m) (cs ++ news) → w.grownBy w' (blk A) → (blk A' = blk A ∨ blk A' = some w.heap.size) → K (a.put o.dst (.slice A' (n + m) c')) w') : o.wp P a w K Q := by
  obtain ⟨A', c', w', hrun, h2, h3, h4⟩ := run_app (P := P) (w := w) base t o.type e i z size bytes ht hi hz hsize hby hzs hsz hbp A n c cs hown A2 m c2 news hl hr h1 hb hbase
  unfold Oper.wp execOp
  simp only [ho, resolve, invoke, builtin, Sem.run_bind, Sem.run_pure, Result.andThen_ok, List.map_toArray, List.map_cons, List.map_nil, hs, hx, hrun]
  exact h A' c' w' h2 h3 h4

/-- An operation that is wanted, in a list. -/
theorem wpList_want {ops : Array Oper} {rest : List Oper} {o : Oper} {a : Act} {Q : Exit → Act → World → Prop} (hw : Region.wanted o (yielded ops a.tmps) = true)
    (h : o.wp P a w (wpList P ops Q rest) Q) : wpList P ops Q (o :: rest) a w :=
  wpList_step (fun K hK => by rw [if_pos hw]; exact Oper.wp_mono hK h)
end

end Go.Proofs.Ytfdngdnnjmcigaa
