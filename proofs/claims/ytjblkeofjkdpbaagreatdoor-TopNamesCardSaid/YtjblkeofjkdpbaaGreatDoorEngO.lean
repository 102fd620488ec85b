/- A region whose order is drawn, whole. Condition: a call's evaluation is the model's call. -/
import Derived.Test.YtjblkeofjkdpbaaGreatDoorEngN
namespace Go.Proofs.YtjblkeofjkdpbaaGreatDoor.Eng
open Go Go.RowKit
set_option linter.unusedVariables false
set_option linter.unusedSimpArgs false
/-- How many have not been carried out. -/
def left_ (listed : Array Bool) (n : Nat) : Nat := (List.range n).countP fun i => !listed.getD i false
theorem left_set {listed : Array Bool} {n i : Nat} (hi : i < n) (hs : listed.size = n) (h : listed.getD i true = false) : left_ (listed.setIfInBounds i true) n + 1 = left_ listed n := by
  subst hs
  unfold left_
  have hil : listed.getD i false = false := by
    simpa [hi] using h
  have key : ∀ l : List Nat, l.Nodup → i ∈ l → (l.countP fun j => !(listed.setIfInBounds i true).getD j false) + 1 = l.countP fun j => !listed.getD j false := by
    intro l
    induction l with
    | nil => intro _ h; simp at h
    | cons x l ih =>
      intro hnd hm
      rw [List.nodup_cons] at hnd
      rw [List.countP_cons, List.countP_cons]
      by_cases hx : x = i
      · subst hx
        have e : (l.countP fun j => !(listed.setIfInBounds x true).getD j false) = l.countP fun j => !listed.getD j false := by
          apply List.countP_congr
          intro j hj
          have hne : x ≠ j := fun e => hnd.1 (by rw [e]; exact hj)
          simp [Array.getElem?_setIfInBounds, hne]
        rw [e]
        simp [hi] at hil ⊢
        simp [hil]
      · have hm' : i ∈ l := by
          rcases List.mem_cons.1 hm with h | h
          · exact absurd h.symm hx
          · exact h
        have := ih hnd.2 hm'
        have e : (listed.setIfInBounds i true).getD x false = listed.getD x false := by
          simp [Ne.symm hx]
        rw [e]
        omega
  exact key _ List.nodup_range (List.mem_range.2 hi)
theorem ready_nil {ops : List Oper} {ancs : List Nat} (hok : AncOK ops ancs) {listed : Array Bool} (hs : listed.size = ops.length) (h : Region.ready .any ops.toArray listed = []) :
    ∀ i o, ops[i]? = some o → listed.getD i false = true := by
  intro i
  induction i using Nat.strongRecOn with
  | ind i ih =>
    intro o ho
    by_cases hl : listed.getD i false = true
    · exact hl
    · exfalso
      have hi : i < ops.length := (List.getElem?_eq_some_iff.1 ho).1
      have hm : i ∈ Region.ready .any ops.toArray listed := mem_ready.2 ⟨by
        have : i < listed.size := by omega
        simpa [this] using hl, o, by simpa using ho, fun e he hb => by
          have hlt := hok.edge i o ho e he hb
          exact ih e.on hlt _ (List.getElem?_eq_getElem (show e.on < ops.length by omega))⟩
      rw [h] at hm
      cases hm
section
variable {ro : Option Nat} {P : Program} {call : Cl → List AV → G → Option (AV × G)} {Nt N : Nat} {ds : List Deferred} {F : Nat → Prop} {ops : List Oper} {ancs : List Nat} {sg s1 : Nat → G} {st : Nat → T AV} {av : Nat → AV} {lg : Nat → Log} {ι0 : Io} {w0 w1 : World} {Q : Exit → Act → World → Prop}
theorem Flow.mono1 (fl : Flow ops ancs sg s1 lg) {i : Nat} (hi : i < ops.length) : Mono (sg i) (sg (i + 1)) := by
  have hm := fl.mono i hi
  have e := fl.next i hi
  have hthr : (s1 i).thr = (sg i).n := hm.thr
  rw [e]
  refine ⟨hm.n, rfl, fun k hk => below?_mem.2 (.inl hk), fun k hk => below?_mem.2 (.inl hk), fun k hk => ?_, fun k hk => ?_, fun k hk hw => ?_, fun ht hd => hm.dom (Nat.le_refl _) hd⟩
  · rcases below?_mem.1 hk with h | ⟨_, h⟩
    · exact .inl h
    · exact .inr h
  · rcases below?_mem.1 hk with h | ⟨h, h2⟩
    · exact .inl h
    · exact .inr (below?_mem.2 (.inr ⟨fl.wr_rd hi h, h2⟩))
  · refine hm.habs k hk fun h => hw ?_
    rcases h with h | h
    · rcases Nat.lt_or_ge k (sg i).thr with h2 | h2
      · exact .inl (below?_mem.2 (.inr ⟨h, h2⟩))
      · exact .inr h2
    · rw [hthr] at h
      omega
theorem Flow.monos (fl : Flow ops ancs sg s1 lg) : ∀ {i j : Nat}, i ≤ j → j ≤ ops.length → Mono (sg i) (sg j) := by
  intro i j h
  induction h with
  | refl => intro _; exact Mono.refl _
  | step h ih =>
    intro hj
    exact (ih (by omega)).tr (fl.mono1 (by omega))
/-- What an operation wrote stands in the whole region's log, or is young. -/
theorem Flow.wrote (fl : Flow ops ancs sg s1 lg) {i k : Nat} (hi : i < ops.length) (hk : k ∈ (s1 i).wr) : Wr (sg ops.length) k := by
  have e := (fl.n_le (i := i) (j := ops.length) (by omega) (by omega)).2
  rcases Nat.lt_or_ge k (sg i).thr with h | h
  · refine .inl ((fl.monos (i := i + 1) (j := ops.length) (by omega) (by omega)).wr k ?_)
    rw [fl.next i hi]
    exact below?_mem.2 (.inr ⟨hk, h⟩)
  · exact .inr (by rw [e]; exact h)
theorem Flow.looked (fl : Flow ops ancs sg s1 lg) (hF : FOK F (sg ops.length)) {i k : Nat} (hi : i < ops.length) (hk : k ∈ (s1 i).rd) : F k := by
  have e := (fl.n_le (i := i) (j := ops.length) (by omega) (by omega)).2
  rcases Nat.lt_or_ge k (sg i).thr with h | h
  · refine hF.1 k ((fl.monos (i := i + 1) (j := ops.length) (by omega) (by omega)).rd k ?_)
    rw [fl.next i hi]
    exact below?_mem.2 (.inr ⟨hk, h⟩)
  · exact hF.2.2 k (by rw [e]; exact h)
theorem inv_wpAny (hng : noNumG P = true) (hc : CallOK P call) (hr : RegOK ops ancs) (tr : Trace P call Nt ops ancs 0 ops.length sg s1 st av lg) (fl : Flow ops ancs sg s1 lg) (ht : (sg 0).thr ≤ (sg 0).n) (hd0 : ∀ k l, (sg 0).H.get k = some l → k < (sg 0).n)
    (hF : FOK F (sg ops.length)) (hend : ∀ ι listed a w, Inv P Nt ds N F ops ancs sg s1 st av ι0 w0 w1 ι listed a w → (∀ i, i < ops.length → Did listed i) → Q .normal a w) :
    ∀ (fuel : Nat) (ι : Io) (listed : Array Bool) (a : Act) (w : World), left_ listed ops.length ≤ fuel → Inv P Nt ds N F ops ancs sg s1 st av ι0 w0 w1 ι listed a w → wpAnyIn (FW ro) 0 P .any ops.toArray Q fuel listed a w := by
  have fin : ∀ ι listed a w, Inv P Nt ds N F ops ancs sg s1 st av ι0 w0 w1 ι listed a w → Region.ready .any ops.toArray listed = [] → Q .normal a w := fun ι listed a w hI hn =>
    hend ι listed a w hI fun i hi => ready_nil hr.toAncOK hI.len hn i _ (List.getElem?_eq_getElem hi)
  intro fuel
  induction fuel with
  | zero =>
    intro ι listed a w hf hI
    have hn : Region.ready .any ops.toArray listed = [] := by
      apply List.eq_nil_iff_forall_not_mem.2
      intro i hi
      obtain ⟨h1, o, ho, _⟩ := mem_ready.1 hi
      have hi' : i < ops.length := by
        have := (Array.getElem?_eq_some_iff.1 ho).1
        simpa using this
      have := left_set hi' hI.len h1
      omega
    exact ⟨hn, fin ι listed a w hI hn⟩
  | succ fuel ih =>
    intro ι listed a w hfu hI
    refine ⟨fin ι listed a w hI, fun i hi => ?_⟩
    obtain ⟨hun, o, ho', hall⟩ := mem_ready.1 hi
    have ho : ops[i]? = some o := by simpa using ho'
    have hil : i < ops.length := (List.getElem?_eq_some_iff.1 ho).1
    have hnd : ¬ Did listed i := by
      unfold Did
      have : i < listed.size := by rw [hI.len]; exact hil
      simpa [this] using hun
    have hleft := left_set hil hI.len hun
    have ha : ∀ k, (ancs.getD i 0).testBit k = true → Did listed k := fun k hk => by
      obtain ⟨e, he, hb, r⟩ := (hr.bit i o ho k).1 hk
      have h1 := hall e he hb
      have h2 := hr.edge i o ho e he hb
      rcases r with r | r
      · subst r; exact h1
      · exact hI.closed e.on (by omega) h1 k r
    have hone := tr.one i o (Nat.zero_le _) hil ho
    have hsat := hI.sat fl ht hd0 (fun j hj k hk => fl.looked hF hj hk) hil hnd ha
    have hFI : FOK (FI sg s1 i) (s1 i) := ⟨fun k hk => .inl hk, fun k hk => .inr (.inl hk), fun k hk => .inr (.inr (by
      have : (s1 i).thr = (sg i).n := (fl.mono i hil).thr
      rw [this] at hk
      exact hk))⟩
    have := evOne_ok (ro := ro) (K := wpAnyIn (FW ro) 0 P .any ops.toArray Q fuel (listed.setIfInBounds i true)) (Q := Q) hng hc hone (hI.uses hr tr ho hnd ha) (Nat.le_refl _) hFI hsat (Nat.le_refl _) (fun ι' v w' hv S Z =>
      ih ι' _ _ _ (by omega) (hI.step hr tr fl ht hd0 ho hnd ha hv S Z))
    unfold wpOpIn
    rw [ho']
    dsimp only
    split
    · rename_i hw
      rw [if_pos hw] at this
      exact this
    · rename_i hw
      rw [if_neg hw] at this
      exact ⟨fun _ _ => trivial, this⟩
theorem evDraw_mono (hc : CallOK P call) {tm tm' : T AV} {g g' : G} (hr : drawOK ops = some ancs) (h : evDraw P call Nt ops ops ancs [] tm g = some (tm', g')) : Mono g g' := by
  rw [evDraw_def] at h
  obtain ⟨sg, s1, st, av, lg, tr, e1, e2, e3, e4, _⟩ := trace_of (ops := ops) (ancs := ancs) ops ancs [] tm g 0 (fun j => by simp) (fun j => by simp) rfl h
  rw [Nat.zero_add] at tr e3 e4
  have := (tr.flow hc).monos (Nat.zero_le ops.length) (Nat.le_refl _)
  rw [e1, e3] at this
  exact this
theorem evDraw_ok (hng : noNumG P = true) (hm : P.follows .mixedOrders = true) (hc : CallOK P call) {tm tm' : T AV} {g g' : G} {ι : Io} {a : Act} {w : World} {id : Nat} (hr : drawOK ops = some ancs) (h : evDraw P call Nt ops ops ancs [] tm g = some (tm', g'))
    (hN : g'.n ≤ N) (hF : FOK F g') (ht : TR ι Nt ds tm a) (hs : Sat N F g ι w0 w) (hthr : g.thr ≤ g.n) (hQ : ∀ ι' a' w', TR ι' Nt ds tm' a' → Step g g' ι ι' w w' → Sat N F g' ι' w0 w' → Q .normal a' w') :
    (Code.region id ops.toArray true).wpIn (FW ro) 0 P Q a w := by
  rw [evDraw_def] at h
  obtain ⟨sg, s1, st, av, lg, tr, e1, e2, e3, e4, _⟩ := trace_of (ops := ops) (ancs := ancs) ops ancs [] tm g 0 (fun j => by simp) (fun j => by simp) rfl h
  rw [Nat.zero_add] at tr e3 e4
  have fl := tr.flow hc
  have hreg := drawOK_ok hr
  subst e1
  subst e2
  subst e3
  subst e4
  have hd0 := hs.dom
  have hmono := fl.monos (Nat.zero_le ops.length) (Nat.le_refl _)
  refine wpIn_region_any hm ?_
  refine inv_wpAny (ro := ro) (ds := ds) (w1 := w) (ι0 := ι) (N := N) (w0 := w0) hng hc hreg tr fl hthr hd0 hF (fun ι' listed a' w' hI hall => ?_) _ ι _ a _ ?_ ?_
  · refine hQ ι' a' w' ⟨hI.size, hI.defers, fun t => ?_⟩ ⟨hmono.n, hmono.thr, hmono.rd, hmono.wr, hI.le, fun k hk => ?_, hI.far, fun k b m h1 h2 h3 => ?_, hmono.habs, fun b hb hno => hI.frame b hb fun k m hk ⟨j, hj, _, hw⟩ => hno k m hk (fl.wrote hj hw), hI.hsize, hI.os, hI.tape, hI.output⟩
      ⟨hI.inj, hI.bnd, hI.un2, fl.dom hthr hd0 _ (Nat.le_refl _), fun k l hk hl => hI.rel k ops.length l hk (Nat.le_refl _) ⟨fun j hj _ => hall j hj, fun j h1 h2 _ _ => by omega⟩ hl, hI.bel⟩
    · by_cases hex : ∃ (j : Nat) (p : Oper), ops[j]? = some p ∧ p.dst = some t
      · obtain ⟨j, p, hp, hd⟩ := hex
        have hj : j < ops.length := (List.getElem?_eq_some_iff.1 hp).1
        rw [st_touched hreg tr hp hd _ (Nat.le_refl _) hj]
        exact hI.tdone j p t hp (hall j hj) hd
      · rw [st_untouched hreg tr t _ (Nat.le_refl _) fun q r _ hr' he => hex ⟨q, r, hr', he⟩]
        exact hI.tfree t fun q r hr' _ he => hex ⟨q, r, hr', he⟩
    · rcases hI.old k hk with e | ⟨e, j, hj, _, hw⟩
      · exact .inl e
      · exact .inr ⟨e, fl.wrote hj hw⟩
    · rcases hI.newb k b m h1 h2 h3 with e | ⟨k0, m0, ⟨j, hj, _, hw⟩, e4, e5⟩
      · exact .inl e
      · exact .inr ⟨k0, m0, fl.wrote hj hw, e4, e5⟩
  · simp [left_]
    exact Nat.le_trans List.countP_le_length (by simp)
  · have hno : ∀ i, ¬ Did (Array.replicate ops.toArray.size false) i := fun i hd => by
      unfold Did at hd
      by_cases h : i < ops.length <;> simp [h] at hd
    refine ⟨by simp, fun i _ hd => absurd hd (hno i), ht.size, ht.defers, fun i o d _ hd => absurd hd (hno i), fun t _ => ht.rel t, hs.inj, hs.bnd, ?_, fun i hi _ k h1 h2 => hs.un k ?_ ?_, fun k h1 h2 => hs.un k ?_ h2, fun k i l hk hi hC hl => ?_, Le.refl _, fun k _ => .inl rfl, fun k _ => rfl, fun k b m h1 h2 h3 => ?_, fun b _ _ => rfl, Nat.le_refl _, rfl, rfl, rfl⟩
    · exact ⟨hs.bel.os, hs.bel.tape, hs.bel.output, hs.bel.size, hs.bel.block⟩
    · have := (fl.n_le (i := 0) (j := i) (Nat.zero_le _) (by omega)).1
      omega
    · have h3 := fl.n_step hi
      have := (fl.n_le (i := i + 1) (j := ops.length) (by omega) (by omega)).1
      omega
    · have := (fl.n_le (i := 0) (j := ops.length) (Nat.zero_le _) (by omega)).1
      omega
    · have e := fl.same hthr hd0 (k := k) (Nat.zero_le i) hi fun m _ h2 hT => hno m (hC.1 m h2 hT)
      rw [e] at hl
      exact hs.rel k l hk hl
    · have := hs.un k h1 (by omega)
      rw [this] at h3
      cases h3
end
end Go.Proofs.YtjblkeofjkdpbaaGreatDoor.Eng
