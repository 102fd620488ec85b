/- The evaluator's memory and the model's: what is related, what one step leaves. No condition. -/
import Derived.Test.YtjblkeofjkdpbaaGreatDoorEngA
namespace Go.Proofs.YtjblkeofjkdpbaaGreatDoor.Eng
open Go Go.RowKit
set_option linter.unusedVariables false
set_option linter.unusedSimpArgs false

/-- Block b of w (m cells) holds the cells l, and may be written. -/
def BR (ι : Io) (ty : Nat) (ex : Bool) (l : List AV) (w : World) (b m : Nat) : Prop :=
  ∃ (c : Array Value) (T : TypeId) (fr : Nat × Nat), w.heap[b]? = some (.cells c T fr) ∧ c.size = m ∧ (∀ (i : Nat) (a : AV), l[i]? = some a → ∃ v, c[i]? = some v ∧ VR ι a v) ∧ (∀ off, off < c.size → ¬ (fr.1 ≤ off ∧ off < fr.2)) ∧ T = ty ∧ (ex = true → m = l.length)
theorem BR.mono {ty : Nat} {ex : Bool} {ι ι' : Io} {l : List AV} {w w' : World} {b m : Nat} (h : BR ι ty ex l w b m) (hl : Le ι ι') (hw : w'.heap[b]? = w.heap[b]?) : BR ι' ty ex l w' b m := by
  obtain ⟨c, T, fr, h1, h2, h3, h4⟩ := h
  exact ⟨c, T, fr, hw.trans h1, h2, fun i a ha => by obtain ⟨v, hv, hr⟩ := h3 i a ha; exact ⟨v, hv, hr.mono hl⟩, h4⟩
theorem BR.len {ty : Nat} {ex : Bool} {ι : Io} {l : List AV} {w : World} {b m : Nat} (h : BR ι ty ex l w b m) : l.length ≤ m := by
  obtain ⟨c, T, fr, h1, h2, h3, h4⟩ := h
  rcases Nat.eq_zero_or_pos l.length with e | e
  · omega
  · have hi : l.length - 1 < l.length := by omega
    obtain ⟨v, hv, _⟩ := h3 (l.length - 1) _ (List.getElem?_eq_getElem hi)
    have := (Array.getElem?_eq_some_iff.1 hv).1
    omega
theorem BR.cell {ty : Nat} {ex : Bool} {ι : Io} {l : List AV} {w : World} {b m : Nat} (h : BR ι ty ex l w b m) {i : Nat} {a : AV} (ha : l[i]? = some a) : ∃ v, w.cell? ⟨b, i, none⟩ = some v ∧ VR ι a v := by
  obtain ⟨c, T, fr, h1, h2, h3, h4⟩ := h
  obtain ⟨v, hv, hr⟩ := h3 i a ha
  exact ⟨v, by rw [cell_of_row w b i c T fr h1, hv], hr⟩
theorem BR.there {ty : Nat} {ex : Bool} {ι : Io} {l : List AV} {w : World} {b m : Nat} (h : BR ι ty ex l w b m) {o n : Nat} (ho : o + n ≤ m) : w.there b o n := by
  obtain ⟨c, T, fr, h1, h2, h3, h4⟩ := h
  intro j hj
  constructor
  · rw [cell_of_row w b (o + j) c T fr h1, Array.getElem?_eq_getElem (by omega)]; rfl
  · have h5 := h4.1 (o + j) (by omega)
    simp only [World.frozen?, h1]
    simpa using h5
theorem BR.shape {ty : Nat} {ex : Bool} {ι : Io} {l : List AV} {w : World} {b m : Nat} (h : BR ι ty ex l w b m) : w.shape? b = some (ty, m) := by
  obtain ⟨c, T, fr, h1, h2, h3, h4, h5, h6⟩ := h
  subst h5 h2
  simp [World.shape?, h1]
/-- A part of the cells, as values. -/
theorem BR.range {ty : Nat} {ex : Bool} {ι : Io} {l cs : List AV} {w : World} {b m o n : Nat} (h : BR ι ty ex l w b m) (hs : slice? l o n = some cs) : ∃ vs : List Value, VRL ι cs vs ∧ vs.length = n ∧ w.rangeAt b o vs := by
  obtain ⟨h1, h2, h3⟩ := slice?_some hs
  have hlen := h.len
  obtain ⟨c, T, fr, hc, hm, hr, _⟩ := h
  refine ⟨(c.toList.drop o).take n, VRL_iff.2 ⟨?_, fun i a ha => ?_⟩, ?_, fun j v hv => ?_⟩
  · rw [List.length_take, List.length_drop, Array.length_toList, h1]; omega
  · have hi : i < n := by rw [← h1]; exact (List.getElem?_eq_some_iff.1 ha).1
    rw [h3 i hi] at ha
    obtain ⟨v, hv, hvr⟩ := hr _ _ ha
    exact ⟨v, by rw [List.getElem?_take_of_lt hi, List.getElem?_drop, Array.getElem?_toList]; exact hv, hvr⟩
  · rw [List.length_take, List.length_drop, Array.length_toList]; omega
  · rw [cell_of_row w b (o + j) c T fr hc]
    have hj : j < n := by
      have := (List.getElem?_eq_some_iff.1 hv).1
      rw [List.length_take] at this; omega
    rw [List.getElem?_take_of_lt hj, List.getElem?_drop, Array.getElem?_toList] at hv
    exact hv

/-- A loop's state, its pending jump. -/
def stTo : Nat → LoopState
  | 0 => .ready
  | 1 => .busy
  | 2 => .done
  | _ => .exhausted
def jumpC : Nat → Option Code
  | 0 => none
  | 1 => some .ret
  | n + 2 => some (.exit n)
/-- Temporaries, by themselves. -/
def TM (ι : Io) (Nt : Nat) (tm : T AV) (ts : Array Value) : Prop := ts.size = Nt ∧ ∀ t, VR ι (opnd tm (.tmp t)) (ts.getD t undef)
theorem TM.mono {ι ι' : Io} {Nt : Nat} {tm : T AV} {ts : Array Value} (h : TM ι Nt tm ts) (hl : Le ι ι') : TM ι' Nt tm ts := ⟨h.1, fun t => (h.2 t).mono hl⟩
/-- A map's stamps are its own, all below its clock. -/
def Stm (l : List MapEntry) (clock : Nat) : Prop := (l.map (·.born)).Nodup ∧ ∀ x ∈ l, x.born < clock
/-- Block b of w holds what is no cells. -/
def BS (ι : Io) (w : World) (b : Nat) : AV → Prop
  | .lp st jump nt tm ps assign body => ∃ r : Loop, w.heap[b]? = some (.loop r) ∧ r.state = stTo st ∧ r.pending = jumpC jump ∧ r.params = ps.toArray ∧ r.assign = assign ∧ r.body = body ∧ TM ι nt tm r.tmps
  | .df o => w.heap[b]? = some (.deferred (if o then some [] else none))
  | .ded => True
  | .mp ks bs vs => ∃ (es : Array MapEntry) (clock : Nat) (l : List MapEntry), w.heap[b]? = some (.map es clock) ∧ l.Perm es.toList ∧ l.map (·.key) = ks ∧ VRL ι vs (l.map (·.val)) ∧ (∀ bl c, bs = some (bl, c) → l.map (·.born) = bl ∧ clock = c) ∧ Stm l clock
  | .mi k since seen last => ∃ bm, w.heap[b]? = some (.mapIter (some bm) since seen.toArray last) ∧ (ι k).is bm
  | .m0 => ∃ s q l, w.heap[b]? = some (.mapIter none s q l)
  | _ => False
theorem BS.mono {ι ι' : Io} {a : AV} {w w' : World} {b : Nat} (h : BS ι w b a) (hl : Le ι ι') (hw : w'.heap[b]? = w.heap[b]?) : BS ι' w' b a := by
  cases a <;> simp only [BS] at h ⊢ <;> first | exact h.elim | skip
  · obtain ⟨r, h1, h2, h3, h4, h5, h6, h7⟩ := h
    exact ⟨r, hw.trans h1, h2, h3, h4, h5, h6, h7.mono hl⟩
  · exact hw.trans h
  · obtain ⟨es, c, l, h1, h2, h3, h4, h5⟩ := h
    exact ⟨es, c, l, hw.trans h1, h2, h3, VRL.mono hl _ _ h4, h5⟩
  · obtain ⟨bm, h1, h2⟩ := h
    exact ⟨bm, hw.trans h1, hl.is h2⟩
  · obtain ⟨s, q, l, h1⟩ := h
    exact ⟨s, q, l, hw.trans h1⟩
/-- Block b of w is what the row r says. -/
def BX (ι : Io) (r : Row) (w : World) (b m : Nat) : Prop := match r with
  | .odd a => BS ι w b a
  | .cells ty ex n p t => BR ι ty ex (Row.cells ty ex n p t).toL w b m
theorem BX.mono {ι ι' : Io} {l : Row} {w w' : World} {b m : Nat} (h : BX ι l w b m) (hl : Le ι ι') (hw : w'.heap[b]? = w.heap[b]?) : BX ι' l w' b m := by
  cases l with
  | odd a => exact BS.mono h hl hw
  | cells ty ex n p t => exact BR.mono h hl hw

/-- What was written since the log began: the log's, and all younger names. -/
def Wr (g : G) (k : Nat) : Prop := k ∈ g.wr ∨ g.thr ≤ k
structure Step (g g' : G) (ι ι' : Io) (w w' : World) : Prop where
  n : g.n ≤ g'.n
  thr : g'.thr = g.thr
  rd : ∀ k ∈ g.rd, k ∈ g'.rd
  wr : ∀ k ∈ g.wr, k ∈ g'.wr
  le : Le ι ι'
  old : ∀ k, k < g.n → ι' k = ι k ∨ (ι' k = .dead ∧ Wr g' k)
  far : ∀ k, g'.n ≤ k → ι' k = ι k
  newb : ∀ k b m, g.n ≤ k → k < g'.n → ι' k = .at_ b m → w.heap.size ≤ b ∨ ∃ k0 m0, Wr g' k0 ∧ k0 < g.n ∧ ι k0 = .at_ b m0
  habs : ∀ k, k < g.n → ¬ Wr g' k → g'.H.get k = g.H.get k
  frame : ∀ b, b < w.heap.size → (∀ k m, k < g.n → Wr g' k → ι k ≠ .at_ b m) → w'.heap[b]? = w.heap[b]?
  size : w.heap.size ≤ w'.heap.size
  os : w'.os = w.os
  tape : w'.tape = w.tape
  output : w'.output = w.output
structure Sat (N : Nat) (F : Nat → Prop) (g : G) (ι : Io) (w0 w : World) : Prop where
  inj : ∀ k k' b m m', ι k = .at_ b m → ι k' = .at_ b m' → k = k'
  bnd : ∀ k b m, ι k = .at_ b m → w0.heap.size ≤ b ∧ b < w.heap.size
  un : ∀ k, g.n ≤ k → k < N → ι k = .un
  dom : ∀ k l, g.H.get k = some l → k < g.n
  rel : ∀ k l, F k → g.H.get k = some l → ∃ b m, ι k = .at_ b m ∧ BX ι l w b m
  bel : Below w0.heap.size w0 w
def FOK (F : Nat → Prop) (g : G) : Prop := (∀ k ∈ g.rd, F k) ∧ (∀ k ∈ g.wr, F k) ∧ ∀ k, g.thr ≤ k → F k
theorem Wr.of {g g' : G} {k : Nat} (h : Wr g k) (ht : g'.thr = g.thr) (hw : ∀ k ∈ g.wr, k ∈ g'.wr) : Wr g' k := by
  rcases h with h | h
  · exact .inl (hw k h)
  · exact .inr (by rw [ht]; exact h)
theorem FOK.wr {F : Nat → Prop} {g : G} (h : FOK F g) {k : Nat} (hk : Wr g k) : F k := by
  rcases hk with hk | hk
  · exact h.2.1 k hk
  · exact h.2.2 k hk
theorem FOK.back {F : Nat → Prop} {g g' : G} {ι ι' : Io} {w w' : World} (h : FOK F g') (s : Step g g' ι ι' w w') : FOK F g :=
  ⟨fun k hk => h.1 k (s.rd k hk), fun k hk => h.2.1 k (s.wr k hk), fun k hk => h.2.2 k (by rw [s.thr]; exact hk)⟩
theorem Step.refl (g : G) (ι : Io) (w : World) : Step g g ι ι w w :=
  ⟨Nat.le_refl _, rfl, fun _ h => h, fun _ h => h, Le.refl _, fun _ _ => .inl rfl, fun _ _ => rfl, fun k b m h1 h2 _ => absurd h2 (by omega), fun _ _ _ => rfl, fun _ _ _ => rfl, Nat.le_refl _, rfl, rfl, rfl⟩
theorem Step.trans {g1 g2 g3 : G} {a b c : Io} {w1 w2 w3 : World} (h : Step g1 g2 a b w1 w2) (k : Step g2 g3 b c w2 w3) : Step g1 g3 a c w1 w3 where
  n := Nat.le_trans h.n k.n
  thr := k.thr.trans h.thr
  rd := fun i hi => k.rd i (h.rd i hi)
  wr := fun i hi => k.wr i (h.wr i hi)
  le := h.le.tr k.le
  old := fun i hi => by
    rcases k.old i (Nat.lt_of_lt_of_le hi h.n) with e | ⟨e, hw⟩
    · rcases h.old i hi with e2 | ⟨e2, hw2⟩
      · exact .inl (e.trans e2)
      · exact .inr ⟨e.trans e2, hw2.of k.thr k.wr⟩
    · exact .inr ⟨e, hw⟩
  far := fun i hi => (k.far i hi).trans (h.far i (Nat.le_trans k.n hi))
  newb := fun i d m h1 h2 h3 => by
    by_cases h4 : i < g2.n
    · rcases k.old i h4 with e | ⟨e, _⟩
      · rw [h3] at e
        rcases h.newb i d m h1 h4 e.symm with h5 | ⟨k0, m0, h5, h6, h7⟩
        · exact .inl h5
        · exact .inr ⟨k0, m0, h5.of k.thr k.wr, h6, h7⟩
      · rw [h3] at e; cases e
    · rcases k.newb i d m (by omega) h2 h3 with h5 | ⟨k0, m0, h5, h6, h7⟩
      · exact .inl (Nat.le_trans h.size h5)
      · by_cases h8 : k0 < g1.n
        · rcases h.old k0 h8 with e | ⟨e, _⟩
          · exact .inr ⟨k0, m0, h5, h8, e ▸ h7⟩
          · rw [h7] at e; cases e
        · rcases h.newb k0 d m0 (by omega) h6 h7 with h9 | ⟨k1, m1, h9, h10, h11⟩
          · exact .inl h9
          · exact .inr ⟨k1, m1, h9.of k.thr k.wr, h10, h11⟩
  habs := fun i hi hw => (k.habs i (Nat.lt_of_lt_of_le hi h.n) hw).trans (h.habs i hi fun hw' => hw (hw'.of k.thr k.wr))
  frame := fun d hd hn => by
    have e1 := h.frame d hd fun i m hi hw => hn i m hi (hw.of k.thr k.wr)
    refine (k.frame d (Nat.lt_of_lt_of_le hd h.size) fun i m hi hw e => ?_).trans e1
    by_cases h8 : i < g1.n
    · rcases h.old i h8 with e2 | ⟨e2, _⟩
      · exact hn i m h8 hw (e2 ▸ e)
      · rw [e] at e2; cases e2
    · rcases h.newb i d m (by omega) hi e with h9 | ⟨k1, m1, h9, h10, h11⟩
      · omega
      · exact hn k1 m1 h10 (h9.of k.thr k.wr) h11
  size := Nat.le_trans h.size k.size
  os := k.os.trans h.os
  tape := k.tape.trans h.tape
  output := k.output.trans h.output
theorem below_step {N : Nat} {F : Nat → Prop} {g g' : G} {ι ι' : Io} {w0 w w' : World} (h : Sat N F g ι w0 w) (s : Step g g' ι ι' w w') : Below w0.heap.size w0 w' :=
  ⟨s.os.trans h.bel.os, s.tape.trans h.bel.tape, s.output.trans h.bel.output, Nat.le_trans h.bel.size s.size, fun b hb => by
    refine (s.frame b (Nat.lt_of_lt_of_le hb h.bel.size) fun k m _ _ e => ?_).trans (h.bel.block b hb)
    have := (h.bnd k b m e).1
    omega⟩
/-- What a program of the model leaves. -/
def Fin (P : Program) (N : Nat) (F : Nat → Prop) (w0 : World) (s : Sem Value) (av : AV) (g g' : G) (ι : Io) (w : World) : Prop :=
  ∃ ι' v w', s.run P w = .ok v w' ∧ VR ι' av v ∧ Step g g' ι ι' w w' ∧ Sat N F g' ι' w0 w'

section
variable {P : Program} {N : Nat} {F : Nat → Prop} {g g' : G} {ι : Io} {w0 w : World}
theorem Fin.pure (hs : Sat N F g ι w0 w) {s : Sem Value} {av : AV} {v : Value} (hr : s.run P w = .ok v w) (hv : VR ι av v) : Fin P N F w0 s av g g ι w :=
  ⟨ι, v, w, hr, hv, Step.refl _ _ _, hs⟩
/-- A block is read. -/
theorem read_ok {k : Nat} {l : Row} (h : g.read k = some (l, g')) (hF : FOK F g') (hs : Sat N F g ι w0 w) :
    g.H.get k = some l ∧ (∃ b m, ι k = .at_ b m ∧ BR ι l.ty l.ex l.toL w b m) ∧ Step g g' ι ι w w ∧ Sat N F g' ι w0 w ∧ g'.H = g.H ∧ g'.n = g.n := by
  rw [G.read_def] at h
  unfold G.readO at h
  split at h
  · cases h
  · rename_i l' hl
    split at h
    · cases h
    rename_i ty ex n p t
    have pl : F k → ∃ b m, ι k = .at_ b m ∧ BR ι ty ex (Row.cells ty ex n p t).toL w b m := fun hk => hs.rel k _ hk hl
    split at h
    · rename_i hlt
      cases h
      refine ⟨hl, pl (hF.1 k (by simp)), ⟨Nat.le_refl _, rfl, fun k hk => by simp [hk], fun _ h => h, Le.refl _, fun _ _ => .inl rfl, fun _ _ => rfl, fun k b m h1 h2 _ => absurd h2 (by simp at h1 ⊢; omega), fun _ _ _ => rfl, fun _ _ _ => rfl, Nat.le_refl _, rfl, rfl, rfl⟩,
        ⟨hs.inj, hs.bnd, hs.un, hs.dom, hs.rel, hs.bel⟩, rfl, rfl⟩
    · rename_i hlt
      cases h
      have hk : g.thr ≤ k := by
        rcases Nat.lt_or_ge k g.thr with e | e
        · rw [show Nat.blt k g.thr = true by simpa [Nat.blt_eq] using e] at hlt; cases hlt
        · exact e
      exact ⟨hl, pl (hF.2.2 k hk), Step.refl _ _ _, hs, rfl, rfl⟩
/-- A block that holds no cells is looked at. -/
theorem readX_ok {k : Nat} {a : AV} (h : g.readX k = some (a, g')) (hF : FOK F g') (hs : Sat N F g ι w0 w) :
    g.H.get k = some (.odd a) ∧ (∃ b m, ι k = .at_ b m ∧ BS ι w b a) ∧ Step g g' ι ι w w ∧ Sat N F g' ι w0 w ∧ g'.H = g.H ∧ g'.n = g.n := by
  rw [G.readX_def] at h
  unfold G.readXO at h
  split at h
  · cases h
  · rename_i l' hl
    split at h
    · rename_i a'
      have pl : F k → ∃ b m, ι k = .at_ b m ∧ BS ι w b a' := fun hk => hs.rel k _ hk hl
      split at h
      · rename_i hlt
        cases h
        refine ⟨hl, pl (hF.1 k (by simp)), ⟨Nat.le_refl _, rfl, fun k hk => by simp [hk], fun _ h => h, Le.refl _, fun _ _ => .inl rfl, fun _ _ => rfl, fun k b m h1 h2 _ => absurd h2 (by simp at h1 ⊢; omega), fun _ _ _ => rfl, fun _ _ _ => rfl, Nat.le_refl _, rfl, rfl, rfl⟩,
          ⟨hs.inj, hs.bnd, hs.un, hs.dom, hs.rel, hs.bel⟩, rfl, rfl⟩
      · rename_i hlt
        cases h
        have hk : g.thr ≤ k := by
          rcases Nat.lt_or_ge k g.thr with e | e
          · rw [show Nat.blt k g.thr = true by simpa [Nat.blt_eq] using e] at hlt; cases hlt
          · exact e
        exact ⟨hl, pl (hF.2.2 k hk), Step.refl _ _ _, hs, rfl, rfl⟩
    · cases h
/-- A block is written: the world has turned in it alone. -/
theorem write_ok {k b m : Nat} {l l0 : Row} {w' : World} (h : g.write k (some l) = some g') (hF : FOK F g') (hs : Sat N F g ι w0 w) (h0 : g.H.get k = some l0) (hk : ι k = .at_ b m)
    (hb : BX ι l w' b m) (hsz : w'.heap.size = w.heap.size) (hos : w'.os = w.os) (ht : w'.tape = w.tape) (hout : w'.output = w.output) (hfr : ∀ d, d ≠ b → w'.heap[d]? = w.heap[d]?) :
    Step g g' ι ι w w' ∧ Sat N F g' ι w0 w' ∧ g'.n = g.n := by
  have hkn : k < g.n := hs.dom k l0 h0
  have hbb := hs.bnd k b m hk
  obtain ⟨H, hH, e1, e2, e3, e4, e5, e6⟩ : ∃ H, T.set (some l) fuelT g.H k = some H ∧ g'.H = H ∧ g'.n = g.n ∧ g'.thr = g.thr ∧ (∀ j ∈ g.rd, j ∈ g'.rd) ∧ (∀ j ∈ g.wr, j ∈ g'.wr) ∧ Wr g' k := by
    rw [G.write_def] at h
    unfold G.writeO at h
    split at h
    · cases h
    · rename_i H hH
      refine ⟨H, hH, ?_⟩
      split at h
      · cases h
        exact ⟨rfl, rfl, rfl, fun j hj => by simp [hj], fun j hj => by simp [hj], .inl (by simp)⟩
      · rename_i hlt
        split at h
        · cases h
          refine ⟨rfl, rfl, rfl, fun j hj => hj, fun j hj => hj, .inr ?_⟩
          rcases Nat.lt_or_ge k g.thr with e | e
          · rw [show Nat.blt k g.thr = true by simpa [Nat.blt_eq] using e] at hlt; cases hlt
          · exact e
        · cases h
  have hget := T.set_get _ _ _ _ _ hH
  have st : Step g g' ι ι w w' :=
    ⟨by omega, e3, e4, e5, Le.refl _, fun _ _ => .inl rfl, fun _ _ => rfl, fun j d m h1 h2 _ => by omega, fun j hj hw => by
      rw [e1, hget, if_neg (fun e : j = k => hw (by rw [e]; exact e6))], fun d hd hn => hfr d (fun e => by subst e; exact hn k m hkn e6 hk), by omega, hos, ht, hout⟩
  refine ⟨st, ⟨hs.inj, fun j d m' hj => by have := hs.bnd j d m' hj; omega, fun j hj => hs.un j (by omega), fun j l' hl => ?_, fun j l' hj hl => ?_, below_step hs st⟩, e2⟩
  · rw [e1, hget] at hl
    rw [e2]
    split at hl
    · rename_i e; subst e; exact hkn
    · exact hs.dom j l' hl
  · rw [e1, hget] at hl
    split at hl
    · rename_i e; subst e; cases hl; exact ⟨b, m, hk, hb⟩
    · rename_i hne
      obtain ⟨d, m', hd, hbr⟩ := hs.rel j l' hj hl
      exact ⟨d, m', hd, hbr.mono (Le.refl _) (hfr d fun e => hne (by subst e; exact hs.inj j k _ _ _ hd hk))⟩
/-- A new name for a new block. -/
theorem new_okX {k : Nat} {l : Row} {w' : World} {m : Nat} (h : g.new l = some (k, g')) (hN : g'.n ≤ N) (hF : FOK F g') (hs : Sat N F g ι w0 w)
    (hb : BX ι l w' w.heap.size m) (hsz : w'.heap.size = w.heap.size + 1) (hos : w'.os = w.os) (ht : w'.tape = w.tape) (hout : w'.output = w.output) (hfr : ∀ d, d < w.heap.size → w'.heap[d]? = w.heap[d]?) :
    ∃ ι', Step g g' ι ι' w w' ∧ Sat N F g' ι' w0 w' ∧ ι' k = .at_ w.heap.size m ∧ Le ι ι' := by
  obtain ⟨H, hH, rfl, rfl⟩ : ∃ H, T.set (some l) fuelT g.H g.n = some H ∧ k = g.n ∧ g' = ⟨H, g.n + 1, g.thr, g.rd, g.wr⟩ := by
    rw [G.new_def] at h
    unfold G.newO at h
    split at h
    · cases h
    · rename_i H hH
      rw [forceNat_eq] at h
      cases h
      exact ⟨H, hH, rfl, rfl⟩
  have hget := T.set_get _ _ _ _ _ hH
  have hun : ι g.n = .un := hs.un g.n (Nat.le_refl _) (by simp at hN; omega)
  let ι' : Io := fun j => if j = g.n then .at_ w.heap.size m else ι j
  have hle : Le ι ι' := fun j => by
    by_cases e : j = g.n
    · left; rw [e]; exact hun
    · right; left; simp [ι', e]
  have st : Step g ⟨H, g.n + 1, g.thr, g.rd, g.wr⟩ ι ι' w w' := by
    refine ⟨Nat.le_succ _, rfl, fun _ h => h, fun _ h => h, hle, fun j hj => .inl ?_, fun j hj => ?_, fun j d m' h1 h2 h3 => .inl ?_, fun j hj hw => ?_, fun d hd _ => hfr d hd, by omega, hos, ht, hout⟩
    · show (if j = g.n then _ else _) = _; rw [if_neg (by omega)]
    · show (if j = g.n then _ else _) = _; rw [if_neg (by simp at hj; omega)]
    · have e : j = g.n := by simp at h2; omega
      subst e
      simp [ι'] at h3
      omega
    · show H.get j = _
      rw [hget, if_neg (by omega)]
  refine ⟨ι', st, ⟨fun i j d m1 m2 h1 h2 => ?_, fun i d m1 h1 => ?_, fun i h1 h2 => ?_, fun j l' hl => ?_, fun j l' hj hl => ?_, below_step hs st⟩, by simp [ι'], hle⟩
  · by_cases e1 : i = g.n
    · by_cases e2 : j = g.n
      · rw [e1, e2]
      · simp [ι', e1, e2] at h1 h2
        have := (hs.bnd _ _ _ h2).2
        omega
    · by_cases e2 : j = g.n
      · simp [ι', e1, e2] at h1 h2
        have := (hs.bnd _ _ _ h1).2
        omega
      · simp [ι', e1, e2] at h1 h2
        exact hs.inj _ _ _ _ _ h1 h2
  · by_cases e1 : i = g.n
    · simp [ι', e1] at h1
      have := hs.bel.size
      omega
    · simp [ι', e1] at h1
      have := hs.bnd _ _ _ h1
      omega
  · show (if i = g.n then _ else _) = _
    simp at h1
    rw [if_neg (by omega)]
    exact hs.un i (by omega) h2
  · show j < g.n + 1
    change H.get j = _ at hl
    rw [hget] at hl
    split at hl
    · omega
    · have := hs.dom _ _ hl; omega
  · change H.get j = _ at hl
    rw [hget] at hl
    split at hl
    · rename_i e
      subst e
      cases hl
      exact ⟨w.heap.size, m, by simp [ι'], hb.mono hle rfl⟩
    · rename_i hne
      obtain ⟨d, m', hd, hbr⟩ := hs.rel j l' hj hl
      refine ⟨d, m', by show (if j = g.n then _ else _) = _; rw [if_neg hne]; exact hd, hbr.mono hle (hfr d (hs.bnd _ _ _ hd).2)⟩
theorem new_ok {ty : Nat} {ex : Bool} {k : Nat} {l : List AV} {w' : World} {m : Nat} (h : g.newL ty ex l = some (k, g')) (hN : g'.n ≤ N) (hF : FOK F g') (hs : Sat N F g ι w0 w)
    (hb : BR ι ty ex l w' w.heap.size m) (hsz : w'.heap.size = w.heap.size + 1) (hos : w'.os = w.os) (ht : w'.tape = w.tape) (hout : w'.output = w.output) (hfr : ∀ d, d < w.heap.size → w'.heap[d]? = w.heap[d]?) :
    ∃ ι', Step g g' ι ι' w w' ∧ Sat N F g' ι' w0 w' ∧ ι' k = .at_ w.heap.size m ∧ Le ι ι' := by
  obtain ⟨n, p, t, h1, h2⟩ := newL_some h
  exact new_okX h1 hN hF hs (show BR ι ty ex (Row.cells ty ex n p t).toL w' w.heap.size m by rw [h2]; exact hb) hsz hos ht hout hfr
/-- A block in the world behind an alloc. -/
theorem BR_alloc {ex : Bool} {ι : Io} {l : List AV} {vs : List Value} {w : World} {T : TypeId} (h : VRL ι l vs) (rest : Array Value) (fr : Nat × Nat) (hfr : ∀ off, off < vs.length + rest.size → ¬ (fr.1 ≤ off ∧ off < fr.2)) (hex : ex = true → rest.size = 0) {w' : World}
    (hw : w'.heap[w.heap.size]? = some (.cells (vs.toArray ++ rest) T fr)) : BR ι T ex l w' w.heap.size (vs.length + rest.size) := by
  obtain ⟨h1, h2⟩ := VRL_iff.1 h
  refine ⟨_, T, fr, hw, by simp, fun i a ha => ?_, fun off ho => hfr off (by simpa using ho), rfl, fun e => by rw [hex e, h1]; rfl⟩
  obtain ⟨v, hv, hr⟩ := h2 i a ha
  have hi : i < vs.length := (List.getElem?_eq_some_iff.1 hv).1
  exact ⟨v, by rw [Array.getElem?_append_left (by simpa using hi)]; simpa using hv, hr⟩
theorem heap_alloc_lt (w : World) (o : Obj) {d : Nat} (h : d < w.heap.size) : (w.alloc o).heap[d]? = w.heap[d]? := by
  show (w.heap.push o)[d]? = _
  rw [Array.getElem?_push_lt h, Array.getElem?_eq_getElem h]
theorem heap_alloc_at (w : World) (o : Obj) : (w.alloc o).heap[w.heap.size]? = some o := by
  show (w.heap.push o)[w.heap.size]? = _
  simp
/-- The value is laid in a new block. -/
theorem alloc_ok {ex : Bool} {k : Nat} {l : List AV} {vs : List Value} {T : TypeId} (h : g.newL T ex l = some (k, g')) (hN : g'.n ≤ N) (hF : FOK F g') (hs : Sat N F g ι w0 w) (hl : VRL ι l vs) :
    ∃ ι', Step g g' ι ι' w (w.alloc (.cells vs.toArray T)) ∧ Sat N F g' ι' w0 (w.alloc (.cells vs.toArray T)) ∧ ι' k = .at_ w.heap.size vs.length ∧ Le ι ι' :=
  new_ok h hN hF hs (by
    have := BR_alloc (ex := ex) (w := w) (T := T) hl #[] (0, 0) (fun _ _ => by simp) (fun _ => rfl) (w' := w.alloc (.cells vs.toArray T)) (by rw [heap_alloc_at]; simp)
    simpa using this) (show (w.heap.push _).size = _ by simp) rfl rfl rfl (fun d hd => heap_alloc_lt w _ hd)
theorem alloc_okR {ex : Bool} {k n : Nat} {p : List AV} {t : Eng.T AV} {vs : List Value} {T : TypeId} (h : g.new (.cells T ex n p t) = some (k, g')) (hN : g'.n ≤ N) (hF : FOK F g') (hs : Sat N F g ι w0 w) (hl : VRL ι (Row.cells T ex n p t).toL vs) :
    ∃ ι', Step g g' ι ι' w (w.alloc (.cells vs.toArray T)) ∧ Sat N F g' ι' w0 (w.alloc (.cells vs.toArray T)) ∧ ι' k = .at_ w.heap.size vs.length ∧ Le ι ι' :=
  new_okX h hN hF hs (show BR ι T ex (Row.cells T ex n p t).toL _ w.heap.size vs.length by
    have := BR_alloc (ex := ex) (w := w) (T := T) hl #[] (0, 0) (fun _ _ => by simp) (fun _ => rfl) (w' := w.alloc (.cells vs.toArray T)) (by rw [heap_alloc_at]; simp)
    simpa using this) (show (w.heap.push _).size = _ by simp) rfl rfl rfl (fun d hd => heap_alloc_lt w _ hd)
end
end Go.Proofs.YtjblkeofjkdpbaaGreatDoor.Eng
