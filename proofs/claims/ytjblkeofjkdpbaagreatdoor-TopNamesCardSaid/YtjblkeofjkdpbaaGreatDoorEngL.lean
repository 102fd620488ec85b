/- Regions whose order is drawn: whatever the order, memory and temporaries come out as in the text's order. Condition: a call's evaluation is the model's call. -/
import Derived.Test.YtjblkeofjkdpbaaGreatDoorEngK
namespace Go.Proofs.YtjblkeofjkdpbaaGreatDoor.Eng
open Go Go.RowKit
set_option linter.unusedVariables false
set_option linter.unusedSimpArgs false
/-- The evaluation of a region, operation by operation. -/
structure Trace (P : Program) (call : Cl → List AV → G → Option (AV × G)) (Nt : Nat) (ops : List Oper) (ancs : List Nat) (i0 i1 : Nat) (sg s1 : Nat → G) (st : Nat → T AV) (av : Nat → AV) (lg : Nat → Log) : Prop where
  one : ∀ i o, i0 ≤ i → i < i1 → ops[i]? = some o → evOne P call ops (st i) o ⟨(sg i).H, (sg i).n, (sg i).n, [], []⟩ = some (av i, s1 i)
  put : ∀ i o, i0 ≤ i → i < i1 → ops[i]? = some o → putT Nt (st i) o.dst (av i) = some (st (i + 1))
  next : ∀ i, i0 ≤ i → i < i1 → sg (i + 1) = ⟨(s1 i).H, (s1 i).n, (sg i).thr, below? (sg i).thr (s1 i).rd (sg i).rd, below? (sg i).thr (s1 i).wr (sg i).wr⟩
  log : ∀ i, i0 ≤ i → i < i1 → lg i = ⟨(s1 i).rd, (s1 i).wr, (sg i).n, (s1 i).n⟩
  apart : ∀ i j, i0 ≤ i → i < i1 → j < i → (ancs.getD i 0).testBit j = true ∨ Apart (lg j) (s1 i).rd (s1 i).wr
theorem trace_of {P : Program} {call : Cl → List AV → G → Option (AV × G)} {Nt : Nat} {ops : List Oper} {ancs : List Nat} {tm' : T AV} {g' : G} :
    ∀ (os : List Oper) (as' : List Nat) (logs : List Log) (tm : T AV) (g : G) (i0 : Nat), (∀ j, ops[i0 + j]? = os[j]?) → (∀ j, ancs[i0 + j]? = as'[j]?) → logs.length = i0 → evDrawO P call Nt ops os as' logs tm g = some (tm', g') →
      ∃ sg s1 st av lg, Trace P call Nt ops ancs i0 (i0 + os.length) sg s1 st av lg ∧ sg i0 = g ∧ st i0 = tm ∧ sg (i0 + os.length) = g' ∧ st (i0 + os.length) = tm' ∧ ∀ j, j < i0 → logs[j]? = some (lg j)
  | [], as', logs, tm, g, i0, ho, ha, hl, h => by
    simp [evDrawO] at h
    obtain ⟨rfl, rfl⟩ := h
    refine ⟨fun _ => g, fun _ => g, fun _ => tm, fun _ => .v undef, fun j => logs.getD j ⟨[], [], 0, 0⟩, ⟨fun i o h1 h2 => by simp at h2; omega, fun i o h1 h2 => by simp at h2; omega, fun i h1 h2 => by simp at h2; omega, fun i h1 h2 => by simp at h2; omega, fun i j h1 h2 => by simp at h2; omega⟩, rfl, rfl, rfl, rfl, fun j hj => ?_⟩
    have : j < logs.length := by omega
    simp [List.getD, this]
  | o :: os, [], logs, tm, g, i0, ho, ha, hl, h => by simp [evDrawO] at h
  | o :: os, a :: as', logs, tm, g, i0, ho, ha, hl, h => by
    simp only [evDrawO] at h
    split at h
    · cases h
    · rename_i v g1 hone
      split at h
      · cases h
      · rename_i hap
        split at h
        · cases h
        · rename_i tm1 hput
          obtain ⟨sg, s1, st, av, lg, tr, e1, e2, e3, e4, e5⟩ := trace_of os as' _ tm1 _ (i0 + 1) (fun j => by have := ho (j + 1); rw [show i0 + 1 + j = i0 + (j + 1) by omega, this]; simp) (fun j => by have := ha (j + 1); rw [show i0 + 1 + j = i0 + (j + 1) by omega, this]; simp) (by simp [hl]) h
          have elen : i0 + 1 + os.length = i0 + (o :: os).length := by simp; omega
          rw [elen] at tr e3 e4
          have hlgi : lg i0 = ⟨g1.rd, g1.wr, g.n, g1.n⟩ := by
            have := e5 i0 (by omega)
            rw [List.getElem?_append_right (by omega), hl, Nat.sub_self] at this
            simpa using this.symm
          have ho0 : ops[i0]? = some o := by have := ho 0; simpa using this
          have ha0 : ancs.getD i0 0 = a := by have := ha 0; simp at this; simp [List.getD, this]
          refine ⟨fun k => if k = i0 then g else sg k, fun k => if k = i0 then g1 else s1 k, fun k => if k = i0 then tm else st k, fun k => if k = i0 then v else av k, lg, ⟨fun i p h1 h2 hp => ?_, fun i p h1 h2 hp => ?_, fun i h1 h2 => ?_, fun i h1 h2 => ?_, fun i j h1 h2 hj => ?_⟩, by simp, by simp, ?_, ?_, fun j hj => ?_⟩
          · by_cases e : i = i0
            · subst e
              rw [ho0] at hp; cases hp
              simpa using hone
            · simp only [if_neg e]
              exact tr.one i p (by omega) h2 hp
          · by_cases e : i = i0
            · subst e
              rw [ho0] at hp; cases hp
              simp only [if_true, if_neg (show ¬ i + 1 = i by omega)]
              rw [e2]; exact hput
            · simp only [if_neg e, if_neg (show ¬ i + 1 = i0 by omega)]
              exact tr.put i p (by omega) h2 hp
          · by_cases e : i = i0
            · subst e
              simp only [if_true, if_neg (show ¬ i + 1 = i by omega)]
              exact e1
            · simp only [if_neg e, if_neg (show ¬ i + 1 = i0 by omega)]
              exact tr.next i (by omega) h2
          · by_cases e : i = i0
            · subst e
              simp only [if_true]
              exact hlgi
            · simp only [if_neg e]
              exact tr.log i (by omega) h2
          · by_cases e : i = i0
            · subst e
              simp only [if_true]
              rw [ha0]
              have hj' := e5 j (by omega)
              rw [List.getElem?_append_left (by omega)] at hj'
              have := apartB_ok hap j (lg j) hj'
              rwa [Nat.zero_add] at this
            · simp only [if_neg e]
              exact tr.apart i j (by omega) h2 hj
          · have : ¬ i0 + (o :: os).length = i0 := by simp
            show (if _ then _ else _) = _
            rw [if_neg this]; exact e3
          · have : ¬ i0 + (o :: os).length = i0 := by simp
            show (if _ then _ else _) = _
            rw [if_neg this]; exact e4
          · have := e5 j (by omega)
            rwa [List.getElem?_append_left (by omega)] at this
section
variable {P : Program} {call : Cl → List AV → G → Option (AV × G)} {Nt : Nat} {ops : List Oper} {ancs : List Nat} {sg s1 : Nat → G} {st : Nat → T AV} {av : Nat → AV} {lg : Nat → Log}
/-- The state that an operation starts from: its own log. -/
def own (g : G) : G := ⟨g.H, g.n, g.n, [], []⟩
/-- What a whole region's evaluation gives, memory only. -/
structure Flow (ops : List Oper) (ancs : List Nat) (sg s1 : Nat → G) (lg : Nat → Log) : Prop where
  mono : ∀ i, i < ops.length → Mono (own (sg i)) (s1 i)
  next : ∀ i, i < ops.length → sg (i + 1) = ⟨(s1 i).H, (s1 i).n, (sg i).thr, below? (sg i).thr (s1 i).rd (sg i).rd, below? (sg i).thr (s1 i).wr (sg i).wr⟩
  apart : ∀ i j, i < ops.length → j < i → (ancs.getD i 0).testBit j = true ∨ Apart ⟨(s1 j).rd, (s1 j).wr, (sg j).n, (s1 j).n⟩ (s1 i).rd (s1 i).wr
theorem Trace.flow (hc : CallOK P call) (h : Trace P call Nt ops ancs 0 ops.length sg s1 st av lg) : Flow ops ancs sg s1 lg :=
  ⟨fun i hi => evOne_mono hc (h.one i _ (Nat.zero_le _) hi (List.getElem?_eq_getElem hi)), fun i hi => h.next i (Nat.zero_le _) hi, fun i j hi hj => by
    have := h.apart i j (Nat.zero_le _) hi hj
    rwa [h.log j (Nat.zero_le _) (by omega)] at this⟩
variable (fl : Flow ops ancs sg s1 lg)
/-- Operation j has made or written name k. -/
def Tch (sg s1 : Nat → G) (j k : Nat) : Prop := k ∈ (s1 j).wr ∨ ((sg j).n ≤ k ∧ k < (s1 j).n)
include fl
theorem Flow.n_step {i : Nat} (hi : i < ops.length) : (sg i).n ≤ (s1 i).n ∧ (sg (i + 1)).n = (s1 i).n ∧ (sg (i + 1)).thr = (sg i).thr ∧ (sg (i + 1)).H = (s1 i).H := by
  have := (fl.mono i hi).n
  rw [fl.next i hi]
  exact ⟨this, rfl, rfl, rfl⟩
theorem Flow.n_le : ∀ {i j : Nat}, i ≤ j → j ≤ ops.length → (sg i).n ≤ (sg j).n ∧ (sg j).thr = (sg i).thr := by
  intro i j h
  induction h with
  | refl => intro _; exact ⟨Nat.le_refl _, rfl⟩
  | step h ih =>
    intro hj
    rename_i m
    have h1 := ih (by omega)
    have h2 := fl.n_step (show m < ops.length by omega)
    show _ ≤ (sg (m + 1)).n ∧ _
    exact ⟨by omega, h2.2.2.1.trans h1.2⟩
theorem Flow.rd_lt {i k : Nat} (hi : i < ops.length) (hk : k ∈ (s1 i).rd) : k < (sg i).n := by
  rcases (fl.mono i hi).rlt k hk with h | h
  · cases h
  · exact h
theorem Flow.wr_rd {i k : Nat} (hi : i < ops.length) (hk : k ∈ (s1 i).wr) : k ∈ (s1 i).rd := by
  rcases (fl.mono i hi).wrd k hk with h | h
  · cases h
  · exact h
theorem Flow.same1 {i k : Nat} (hi : i < ops.length) (hk : k < (sg i).n) (hw : k ∉ (s1 i).wr) : (sg (i + 1)).H.get k = (sg i).H.get k := by
  rw [(fl.n_step hi).2.2.2]
  refine (fl.mono i hi).habs k hk fun h => ?_
  rcases h with h | h
  · exact hw h
  · have e : (s1 i).thr = (sg i).n := (fl.mono i hi).thr
    rw [e] at h
    omega
theorem Flow.dom (ht : (sg 0).thr ≤ (sg 0).n) (hd : ∀ k l, (sg 0).H.get k = some l → k < (sg 0).n) : ∀ i, i ≤ ops.length → ∀ k l, (sg i).H.get k = some l → k < (sg i).n := by
  intro i
  induction i with
  | zero => intro _; exact hd
  | succ i ih =>
    intro hi k l hl
    have h1 := fl.n_step (show i < ops.length by omega)
    rw [h1.2.2.2] at hl
    rw [h1.2.1]
    exact (fl.mono i (by omega)).dom (Nat.le_refl _) (ih (by omega)) k l hl
/-- Nobody between has touched k. -/
theorem Flow.same {k : Nat} (ht : (sg 0).thr ≤ (sg 0).n) (hd : ∀ k l, (sg 0).H.get k = some l → k < (sg 0).n) : ∀ {i j : Nat}, i ≤ j → j ≤ ops.length → (∀ m, i ≤ m → m < j → ¬ Tch sg s1 m k) → (sg j).H.get k = (sg i).H.get k := by
  intro i j h
  induction h with
  | refl => intro _ _; rfl
  | step h ih =>
    intro hj hn
    rename_i m
    rw [← ih (by omega) fun q h1 h2 => hn q h1 (by omega)]
    have hm : m < ops.length := by omega
    have hq := hn m h (by omega)
    by_cases hk : k < (sg m).n
    · exact fl.same1 hm hk fun e => hq (.inl e)
    · have h1 := fl.n_step hm
      have hk2 : ¬ k < (s1 m).n := fun e => hq (.inr ⟨by omega, e⟩)
      have e1 : (sg m).H.get k = none := by
        cases e : (sg m).H.get k with
        | none => rfl
        | some l => exact absurd (fl.dom ht hd m (by omega) k l e) hk
      have e2 : (sg (m + 1)).H.get k = none := by
        cases e : (sg (m + 1)).H.get k with
        | none => rfl
        | some l => have := fl.dom ht hd (m + 1) (by omega) k l e; omega
      rw [e1, e2]
/-- Who touches what another one looks at is waited for, or waits. -/
theorem Flow.near {i j k : Nat} (hi : i < ops.length) (hj : j < ops.length) (hne : i ≠ j) (hk : k ∈ (s1 i).rd) (ht : Tch sg s1 j k) : (ancs.getD i 0).testBit j = true ∨ (ancs.getD j 0).testBit i = true := by
  rcases Nat.lt_or_ge j i with h | h
  · left
    rcases fl.apart i j hi h with h1 | ⟨h1, h2, h3⟩
    · exact h1
    · exfalso
      rcases ht with ht | ht
      · exact h1 k ht hk
      · exact h3 k hk ht
  · right
    have h : i < j := by omega
    rcases fl.apart j i hj h with h1 | ⟨h1, h2, h3⟩
    · exact h1
    · exfalso
      rcases ht with ht | ht
      · exact h2 k ht hk
      · have := fl.rd_lt hi hk
        have := (fl.n_le (i := i) (j := j) (by omega) (by omega)).1
        omega
theorem Flow.near2 {i j k : Nat} (hi : i < ops.length) (hj : j < ops.length) (hne : i ≠ j) (hk : Tch sg s1 i k) (ht : Tch sg s1 j k) : (ancs.getD i 0).testBit j = true ∨ (ancs.getD j 0).testBit i = true := by
  rcases hk with hk | hk
  · exact fl.near hi hj hne (fl.wr_rd hi hk) ht
  · rcases ht with ht | ht
    · exact (fl.near hj hi (Ne.symm hne) (fl.wr_rd hj ht) (.inr hk)).symm
    · exfalso
      have a1 := fl.n_step hi
      have a2 := fl.n_step hj
      rcases Nat.lt_or_ge i j with h | h
      · have := (fl.n_le (i := i + 1) (j := j) (by omega) (by omega)).1
        omega
      · have := (fl.n_le (i := j + 1) (j := i) (by omega) (by omega)).1
        omega
end
end Go.Proofs.YtjblkeofjkdpbaaGreatDoor.Eng
