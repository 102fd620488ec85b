/- Regions whose order is drawn: what holds when some of the operations have been carried out. Condition: a call's evaluation is the model's call. -/
import Derived.Test.YtjblkeofjkdpbaaGreatDoorEngL
namespace Go.Proofs.YtjblkeofjkdpbaaGreatDoor.Eng
open Go Go.RowKit
set_option linter.unusedVariables false
set_option linter.unusedSimpArgs false
/-- The operation has been carried out. -/
abbrev Did (listed : Array Bool) (i : Nat) : Prop := listed.getD i false = true
theorem did_set {listed : Array Bool} {i j : Nat} (hi : i < listed.size) : Did (listed.setIfInBounds i true) j ↔ j = i ∨ Did listed j := by
  unfold Did
  by_cases e : j = i
  · subst e; simp [hi]
  · simp [Array.getElem?_setIfInBounds, Ne.symm e, e]
section
variable {P : Program} {call : Cl → List AV → G → Option (AV × G)} {Nt N : Nat} {ds : List Deferred} {F : Nat → Prop} {ops : List Oper} {ancs : List Nat} {sg s1 : Nat → G} {st : Nat → T AV} {av : Nat → AV} {lg : Nat → Log} {ι0 : Io} {w0 w1 : World}
/-- k's content is that of the text's order ahead of operation i. -/
def Cur (sg s1 : Nat → G) (n : Nat) (D : Nat → Prop) (k i : Nat) : Prop := (∀ j, j < i → Tch sg s1 j k → D j) ∧ ∀ j, i ≤ j → j < n → D j → ¬ Tch sg s1 j k
structure Inv (P : Program) (Nt : Nat) (ds : List Deferred) (N : Nat) (F : Nat → Prop) (ops : List Oper) (ancs : List Nat) (sg s1 : Nat → G) (st : Nat → T AV) (av : Nat → AV) (ι0 : Io) (w0 w1 : World) (ι : Io) (listed : Array Bool) (a : Act) (w : World) : Prop where
  len : listed.size = ops.length
  closed : ∀ i, i < ops.length → Did listed i → ∀ k, (ancs.getD i 0).testBit k = true → Did listed k
  size : a.tmps.size = Nt
  defers : a.defers = ds
  tdone : ∀ i o d, ops[i]? = some o → Did listed i → o.dst = some d → VR ι (av i) (a.eval (.tmp d))
  tfree : ∀ t, (∀ i o, ops[i]? = some o → Did listed i → o.dst ≠ some t) → VR ι (opnd (st 0) (.tmp t)) (a.eval (.tmp t))
  inj : ∀ k k' b m m', ι k = .at_ b m → ι k' = .at_ b m' → k = k'
  bnd : ∀ k b m, ι k = .at_ b m → w0.heap.size ≤ b ∧ b < w.heap.size
  bel : Below w0.heap.size w0 w
  un : ∀ i, i < ops.length → ¬ Did listed i → ∀ k, (sg i).n ≤ k → k < (s1 i).n → ι k = .un
  un2 : ∀ k, (sg ops.length).n ≤ k → k < N → ι k = .un
  rel : ∀ k i l, F k → i ≤ ops.length → Cur sg s1 ops.length (Did listed) k i → (sg i).H.get k = some l → ∃ b m, ι k = .at_ b m ∧ BX ι l w b m
  le : Le ι0 ι
  old : ∀ k, k < (sg 0).n → ι k = ι0 k ∨ (ι k = .dead ∧ ∃ j, j < ops.length ∧ Did listed j ∧ k ∈ (s1 j).wr)
  far : ∀ k, (sg ops.length).n ≤ k → ι k = ι0 k
  newb : ∀ k b m, (sg 0).n ≤ k → k < (sg ops.length).n → ι k = .at_ b m → w1.heap.size ≤ b ∨ ∃ k0 m0, (∃ j, j < ops.length ∧ Did listed j ∧ k0 ∈ (s1 j).wr) ∧ k0 < (sg 0).n ∧ ι0 k0 = .at_ b m0
  frame : ∀ b, b < w1.heap.size → (∀ k m, k < (sg 0).n → (∃ j, j < ops.length ∧ Did listed j ∧ k ∈ (s1 j).wr) → ι0 k ≠ .at_ b m) → w.heap[b]? = w1.heap[b]?
  hsize : w1.heap.size ≤ w.heap.size
  os : w.os = w1.os
  tape : w.tape = w1.tape
  output : w.output = w1.output
/-- What names a run of operation i may look at. -/
def FI (sg s1 : Nat → G) (i : Nat) : Nat → Prop := fun k => k ∈ (s1 i).rd ∨ k ∈ (s1 i).wr ∨ (sg i).n ≤ k
theorem st_untouched (hr : RegOK ops ancs) (tr : Trace P call Nt ops ancs 0 ops.length sg s1 st av lg) (t : Nat) : ∀ i, i ≤ ops.length → (∀ j p, j < i → ops[j]? = some p → p.dst ≠ some t) → opnd (st i) (.tmp t) = opnd (st 0) (.tmp t) := by
  intro i
  induction i with
  | zero => intro _ _; rfl
  | succ i ih =>
    intro hi hn
    have hil : i < ops.length := by omega
    rw [← ih (by omega) fun j p hj hp => hn j p (by omega) hp]
    have hput := tr.put i _ (Nat.zero_le _) hil (List.getElem?_eq_getElem hil)
    have hd := hn i _ (by omega) (List.getElem?_eq_getElem hil)
    rw [putT_eq] at hput
    split at hput
    · injection hput with hput; rw [← hput]
    · rename_i d hdst
      split at hput
      · have hget := T.set_get _ _ _ _ _ hput
        refine opnd_eq ?_
        rw [hget, if_neg]
        intro e
        subst e
        exact hd hdst
      · cases hput
theorem st_touched (hr : RegOK ops ancs) (tr : Trace P call Nt ops ancs 0 ops.length sg s1 st av lg) {j d : Nat} {p : Oper} (hp : ops[j]? = some p) (hd : p.dst = some d) : ∀ i, i ≤ ops.length → j < i → opnd (st i) (.tmp d) = av j := by
  intro i
  induction i with
  | zero => intro _ h; omega
  | succ i ih =>
    intro hi hj
    have hil : i < ops.length := by omega
    have hput := tr.put i _ (Nat.zero_le _) hil (List.getElem?_eq_getElem hil)
    by_cases e : j = i
    · subst e
      rw [List.getElem?_eq_getElem hil] at hp
      cases hp
      rw [putT_eq] at hput
      rw [hd] at hput
      dsimp only at hput
      split at hput
      · have hget := T.set_get _ _ _ _ _ hput
        exact opnd_some (by rw [hget, if_pos rfl])
      · cases hput
    · rw [← ih (by omega) (by omega)]
      rw [putT_eq] at hput
      split at hput
      · injection hput with hput; rw [← hput]
      · rename_i d' hdst
        split at hput
        · have hget := T.set_get _ _ _ _ _ hput
          refine opnd_eq ?_
          rw [hget, if_neg]
          intro e2
          subst e2
          exact e (hr.one j i p _ d hp (List.getElem?_eq_getElem hil) hd hdst)
        · cases hput
variable {ι : Io} {listed : Array Bool} {a : Act} {w : World}
/-- The temporaries of an operation that may be carried out now. -/
theorem Inv.uses (hr : RegOK ops ancs) (tr : Trace P call Nt ops ancs 0 ops.length sg s1 st av lg) (h : Inv P Nt ds N F ops ancs sg s1 st av ι0 w0 w1 ι listed a w) {i : Nat} {o : Oper} (ho : ops[i]? = some o) (hn : ¬ Did listed i) (ha : ∀ k, (ancs.getD i 0).testBit k = true → Did listed k) :
    UR ι ops o (st i) a := by
  have hi : i < ops.length := (List.getElem?_eq_some_iff.1 ho).1
  intro t ht
  by_cases hex : ∃ (j : Nat) (p : Oper), ops[j]? = some p ∧ p.dst = some t
  · obtain ⟨j, p, hp, hd⟩ := hex
    have hj : j < ops.length := (List.getElem?_eq_some_iff.1 hp).1
    rcases hr.uses i o t j p ho ht hp hd with e | e | e
    · subst e
      rw [st_untouched hr tr t j (by omega) fun q r hq hr' he => by
        have := hr.one q j r p t hr' hp he hd
        omega]
      exact h.tfree t fun q r hr' hdid he => by
        have := hr.one q j r p t hr' hp he hd
        subst this
        exact hn hdid
    · have hlt := hr.lt i o j ho e
      rw [st_touched hr tr hp hd i (by omega) hlt]
      exact h.tdone j p t hp (ha j e) hd
    · have hlt := hr.lt j p i hp e
      rw [st_untouched hr tr t i (by omega) fun q r hq hr' he => by
        have := hr.one q j r p t hr' hp he hd
        omega]
      exact h.tfree t fun q r hr' hdid he => by
        have := hr.one q j r p t hr' hp he hd
        subst this
        exact hn (h.closed q hj hdid i e)
  · rw [st_untouched hr tr t i (by omega) fun q r _ hr' he => hex ⟨q, r, hr', he⟩]
    exact h.tfree t fun q r hr' _ he => hex ⟨q, r, hr', he⟩
/-- The state in which operation i is carried out now is that of the text's order, as far as it looks. -/
theorem Inv.sat (fl : Flow ops ancs sg s1 lg) (ht : (sg 0).thr ≤ (sg 0).n) (hd0 : ∀ k l, (sg 0).H.get k = some l → k < (sg 0).n) (h : Inv P Nt ds N F ops ancs sg s1 st av ι0 w0 w1 ι listed a w)
    (hF : ∀ i, i < ops.length → ∀ k, k ∈ (s1 i).rd → F k) {i : Nat} (hi : i < ops.length) (hn : ¬ Did listed i) (ha : ∀ k, (ancs.getD i 0).testBit k = true → Did listed k) :
    Sat (s1 i).n (FI sg s1 i) (Eng.own (sg i)) ι w0 w := by
  refine ⟨h.inj, h.bnd, fun k h1 h2 => h.un i hi hn k h1 h2, fun k l hl => fl.dom ht hd0 i (by omega) k l hl, fun k l hk hl => ?_, h.bel⟩
  change (sg i).H.get k = some l at hl
  have hkn := fl.dom ht hd0 i (by omega) k l hl
  have hkr : k ∈ (s1 i).rd := by
    rcases hk with hk | hk | hk
    · exact hk
    · exact fl.wr_rd hi hk
    · omega
  refine h.rel k i l (hF i hi k hkr) (by omega) ⟨fun j hj hT => ?_, fun j hj hjn hD hT => ?_⟩ hl
  · rcases fl.near hi (by omega) (by omega) hkr hT with e | e
    · exact ha j e
    · exfalso
      rcases fl.apart i j hi hj with e2 | ⟨e1, e2, e3⟩
      · -- both wait for one another
        exact absurd (ha j e2) (fun hD => hn (h.closed j (by omega) hD i e))
      · rcases hT with hT | hT
        · exact e1 k hT hkr
        · exact e3 k hkr hT
  · by_cases e : j = i
    · subst e; exact hn hD
    · rcases fl.near hi hjn (by omega) hkr hT with e2 | e2
      · rcases fl.apart j i hjn (by omega) with e3 | ⟨e3, e4, e5⟩
        · exact hn (h.closed j hjn hD i e3)
        · rcases hT with hT | hT
          · exact e4 k hT hkr
          · have := fl.rd_lt hi hkr
            have := (fl.n_le (i := i) (j := j) hj (by omega)).1
            omega
      · exact hn (h.closed j hjn hD i e2)
end
end Go.Proofs.YtjblkeofjkdpbaaGreatDoor.Eng
