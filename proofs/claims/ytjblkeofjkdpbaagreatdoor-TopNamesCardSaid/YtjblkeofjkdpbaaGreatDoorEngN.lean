/- Regions whose order is drawn: one operation more; all operations. Condition: a call's evaluation is the model's call. -/
import Derived.Test.YtjblkeofjkdpbaaGreatDoorEngM
namespace Go.Proofs.YtjblkeofjkdpbaaGreatDoor.Eng
open Go Go.RowKit
set_option linter.unusedVariables false
set_option linter.unusedSimpArgs false
section
variable {P : Program} {call : Cl → List AV → G → Option (AV × G)} {Nt N : Nat} {ds : List Deferred} {F : Nat → Prop} {ops : List Oper} {ancs : List Nat} {sg s1 : Nat → G} {st : Nat → T AV} {av : Nat → AV} {lg : Nat → Log} {ι0 : Io} {w0 w1 : World}
variable {ι ι' : Io} {listed : Array Bool} {a : Act} {w w' : World}
theorem Inv.step (hr : RegOK ops ancs) (tr : Trace P call Nt ops ancs 0 ops.length sg s1 st av lg) (fl : Flow ops ancs sg s1 lg) (ht : (sg 0).thr ≤ (sg 0).n) (hd0 : ∀ k l, (sg 0).H.get k = some l → k < (sg 0).n)
    (h : Inv P Nt ds N F ops ancs sg s1 st av ι0 w0 w1 ι listed a w) {i : Nat} {o : Oper} (ho : ops[i]? = some o) (hn : ¬ Did listed i) (ha : ∀ k, (ancs.getD i 0).testBit k = true → Did listed k)
    {v : Value} (hv : VR ι' (av i) v) (S : Step (Eng.own (sg i)) (s1 i) ι ι' w w') (Z : Sat (s1 i).n (FI sg s1 i) (s1 i) ι' w0 w') :
    Inv P Nt ds N F ops ancs sg s1 st av ι0 w0 w1 ι' (listed.setIfInBounds i true) (a.put o.dst v) w' := by
  have hi : i < ops.length := (List.getElem?_eq_some_iff.1 ho).1
  have hsz : i < listed.size := by rw [h.len]; exact hi
  have D : ∀ j, Did (listed.setIfInBounds i true) j ↔ j = i ∨ Did listed j := fun j => did_set hsz
  have hthr1 : (s1 i).thr = (sg i).n := (fl.mono i hi).thr
  have wrI : ∀ k, Wr (s1 i) k → k < (sg i).n → k ∈ (s1 i).wr := fun k hk hlt => by
    rcases hk with hk | hk
    · exact hk
    · rw [hthr1] at hk; omega
  have hnst := fl.n_step hi
  -- a name that operation i has not touched is as it was
  have same : ∀ k, ¬ Tch sg s1 i k → ι' k = ι k := fun k hk => by
    by_cases e : k < (sg i).n
    · rcases S.old k e with e2 | ⟨_, e2⟩
      · exact e2
      · exact absurd (.inl (wrI k e2 e)) hk
    · exact S.far k (by
        rcases Nat.lt_or_ge k (s1 i).n with e2 | e2
        · exact absurd (.inr ⟨by omega, e2⟩) hk
        · exact e2)
  -- a wide look at who waits for whom
  have sep : ∀ j, j < ops.length → j ≠ i → ¬ Did listed j → ∀ k, Tch sg s1 j k → Tch sg s1 i k → (ancs.getD j 0).testBit i = true := fun j hj hne hnd k h1 h2 => by
    rcases fl.near2 hj hi hne h1 h2 with e | e
    · exact e
    · exact absurd (ha j e) hnd
  have sep2 : ∀ j, j < ops.length → Did listed j → ∀ k, Tch sg s1 j k → Tch sg s1 i k → (ancs.getD i 0).testBit j = true := fun j hj hd k h1 h2 => by
    rcases fl.near2 hi hj (fun e => hn (e ▸ hd)) h2 h1 with e | e
    · exact e
    · exact absurd (h.closed j hj hd i e) hn
  refine ⟨by simp [h.len], fun j hj hdj k hk => ?_, by unfold Act.put; split <;> simp [h.size], by unfold Act.put; split <;> simp [h.defers], fun j p d hp hdj hd => ?_, fun t htf => ?_, Z.inj, Z.bnd, Z.bel, fun j hj hnj k h1 h2 => ?_, fun k h1 h2 => ?_, fun k j l hFk hj hC hl => ?_,
    h.le.tr S.le, fun k hk => ?_, fun k hk => ?_, fun k b m h1 h2 h3 => ?_, fun b hb hno => ?_, Nat.le_trans h.hsize S.size, S.os.trans h.os, S.tape.trans h.tape, S.output.trans h.output⟩
  · -- closed
    rcases (D j).1 hdj with e | e
    · subst e; exact (D k).2 (.inr (ha k hk))
    · exact (D k).2 (.inr (h.closed j hj e k hk))
  · -- done temporaries
    rcases (D j).1 hdj with e | e
    · subst e
      rw [ho] at hp; cases hp
      have hdn : d < a.tmps.size := by
        have hput := tr.put j _ (Nat.zero_le _) hi ho
        rw [putT_eq] at hput
        rw [hd] at hput
        dsimp only at hput
        split at hput
        · rename_i hlt; rw [h.size]; simpa [Nat.blt_eq] using hlt
        · cases hput
      have : (a.put o.dst v).eval (.tmp d) = v := by
        show (a.put o.dst v).tmps.getD d undef = v
        rw [hd]
        simp [Act.put, hdn]
      rw [this]
      exact hv
    · have hne : o.dst ≠ some d := fun e2 => by
        have := hr.one i j o p d ho hp e2 hd
        subst this
        exact hn e
      have : (a.put o.dst v).eval (.tmp d) = a.eval (.tmp d) := by
        show (a.put o.dst v).tmps.getD d undef = a.tmps.getD d undef
        unfold Act.put
        split
        · rename_i d' hd'
          have : d' ≠ d := fun e2 => hne (by rw [hd', e2])
          simp [Array.getElem?_setIfInBounds, this]
        · rfl
      rw [this]
      exact (h.tdone j p d hp e hd).mono S.le
  · -- free temporaries
    have hne : o.dst ≠ some t := htf i o ho ((D i).2 (.inl rfl))
    have : (a.put o.dst v).eval (.tmp t) = a.eval (.tmp t) := by
      show (a.put o.dst v).tmps.getD t undef = a.tmps.getD t undef
      unfold Act.put
      split
      · rename_i d' hd'
        have : d' ≠ t := fun e2 => hne (by rw [hd', e2])
        simp [Array.getElem?_setIfInBounds, this]
      · rfl
    rw [this]
    exact (h.tfree t fun j p hp hd => htf j p hp ((D j).2 (.inr hd))).mono S.le
  · -- names of those that have not been carried out
    have hne : j ≠ i := fun e => hnj ((D j).2 (.inl e))
    have hnd : ¬ Did listed j := fun e => hnj ((D j).2 (.inr e))
    rw [same k ?_]
    · exact h.un j hj hnd k h1 h2
    · intro hT
      have e := sep j hj hne hnd k (.inr ⟨h1, h2⟩) hT
      -- j waits for i: k, which j makes, was not there
      have hlt := hr.lt j _ i (List.getElem?_eq_getElem hj) e
      rcases hT with hT | hT
      · have := fl.rd_lt hi (fl.wr_rd hi hT)
        have := (fl.n_le (i := i) (j := j) (by omega) (by omega)).1
        omega
      · have := (fl.n_le (i := i + 1) (j := j) (by omega) (by omega)).1
        omega
  · rw [S.far k (by have := (fl.n_le (i := i + 1) (j := ops.length) (by omega) (by omega)).1; omega)]
    exact h.un2 k h1 h2
  · -- memory
    by_cases hT : Tch sg s1 i k
    · have hij : i < j := by
        rcases Nat.lt_or_ge i j with e | e
        · exact e
        · exact absurd hT (hC.2 i e hi ((D i).2 (.inl rfl)))
      have e : (sg j).H.get k = (sg (i + 1)).H.get k := fl.same ht hd0 hij hj fun m h1 h2 hTm => by
        rcases (D m).1 (hC.1 m h2 hTm) with e | e
        · omega
        · have := sep2 m (by omega) e k hTm hT
          have := hr.lt i o m ho this
          omega
      rw [e, hnst.2.2.2] at hl
      refine Z.rel k l ?_ hl
      rcases hT with hT | hT
      · exact .inr (.inl hT)
      · exact .inr (.inr hT.1)
    · obtain ⟨b, m, hk, hb⟩ := h.rel k j l hFk hj ⟨fun q hq hTq => by
        rcases (D q).1 (hC.1 q hq hTq) with e | e
        · subst e; exact absurd hTq hT
        · exact e, fun q h1 h2 hq => hC.2 q h1 h2 ((D q).2 (.inr hq))⟩ hl
      refine ⟨b, m, (same k hT).trans hk, hb.mono S.le (S.frame b (h.bnd k b m hk).2 fun k' m' hk' hw he => ?_)⟩
      have := h.inj k k' b m m' hk he
      subst this
      exact hT (.inl (wrI k hw hk'))
  · -- old names
    by_cases hT : Tch sg s1 i k
    · have h0 := (fl.n_le (i := 0) (j := i) (Nat.zero_le _) (by omega)).1
      rcases S.old k (by show k < (sg i).n; omega) with e | ⟨e, e2⟩
      · rw [e]
        rcases h.old k hk with e3 | ⟨e3, j, hj, hdj, hw⟩
        · exact .inl e3
        · exact .inr ⟨e3, j, hj, (D j).2 (.inr hdj), hw⟩
      · exact .inr ⟨e, i, hi, (D i).2 (.inl rfl), wrI k e2 (by omega)⟩
    · rw [same k hT]
      rcases h.old k hk with e3 | ⟨e3, j, hj, hdj, hw⟩
      · exact .inl e3
      · exact .inr ⟨e3, j, hj, (D j).2 (.inr hdj), hw⟩
  · rw [S.far k (by have := (fl.n_le (i := i + 1) (j := ops.length) (by omega) (by omega)).1; omega)]
    exact h.far k hk
  · -- new names
    have up : (w1.heap.size ≤ b ∨ ∃ k0 m0, (∃ j, j < ops.length ∧ Did listed j ∧ k0 ∈ (s1 j).wr) ∧ k0 < (sg 0).n ∧ ι0 k0 = .at_ b m0) → (w1.heap.size ≤ b ∨ ∃ k0 m0, (∃ j, j < ops.length ∧ Did (listed.setIfInBounds i true) j ∧ k0 ∈ (s1 j).wr) ∧ k0 < (sg 0).n ∧ ι0 k0 = .at_ b m0) := by
      rintro (e | ⟨k0, m0, ⟨j, e1, e2, e3⟩, e4, e5⟩)
      · exact .inl e
      · exact .inr ⟨k0, m0, ⟨j, e1, (D j).2 (.inr e2), e3⟩, e4, e5⟩
    have oldcase : ι' k = ι k → _ := fun e => up (h.newb k b m h1 h2 (e ▸ h3))
    by_cases e : k < (sg i).n
    · rcases S.old k e with e2 | ⟨e2, _⟩
      · exact oldcase e2
      · rw [h3] at e2; cases e2
    · by_cases e2 : k < (s1 i).n
      · rcases S.newb k b m (by show (sg i).n ≤ k; omega) e2 h3 with e3 | ⟨k0, m0, e3, e4, e5⟩
        · exact .inl (Nat.le_trans h.hsize e3)
        · have hk0 := wrI k0 e3 e4
          by_cases e6 : k0 < (sg 0).n
          · rcases h.old k0 e6 with e7 | ⟨e7, _⟩
            · exact .inr ⟨k0, m0, ⟨i, hi, (D i).2 (.inl rfl), hk0⟩, e6, e7 ▸ e5⟩
            · rw [e5] at e7; cases e7
          · have := (fl.n_le (i := i) (j := ops.length) (by omega) (by omega)).1
            exact up (h.newb k0 b m0 (by omega) (by have : k0 < (sg i).n := e4; omega) e5)
      · exact oldcase (S.far k (by omega))
  · -- blocks
    have e1 := h.frame b hb fun k m hk ⟨j, hj, hdj, hw⟩ => hno k m hk ⟨j, hj, (D j).2 (.inr hdj), hw⟩
    refine (S.frame b (Nat.lt_of_lt_of_le hb h.hsize) fun k m hk hw he => ?_).trans e1
    have hkw := wrI k hw hk
    by_cases e6 : k < (sg 0).n
    · rcases h.old k e6 with e7 | ⟨e7, _⟩
      · exact hno k m e6 ⟨i, hi, (D i).2 (.inl rfl), hkw⟩ (e7 ▸ he)
      · rw [he] at e7; cases e7
    · have hle := (fl.n_le (i := i) (j := ops.length) (by omega) (by omega)).1
      rcases h.newb k b m (by omega) (by have : k < (sg i).n := hk; omega) he with e7 | ⟨k0, m0, ⟨j, hj, hdj, hw0⟩, e8, e9⟩
      · omega
      · exact hno k0 m0 e8 ⟨j, hj, (D j).2 (.inr hdj), hw0⟩ e9
end
end Go.Proofs.YtjblkeofjkdpbaaGreatDoor.Eng
