/- Each operation of the evaluator is the model's. No condition. -/
import Derived.Test.YtjblkeofjkdpbaaGreatDoorEngB
namespace Go.Proofs.YtjblkeofjkdpbaaGreatDoor.Eng
open Go Go.RowKit
set_option linter.unusedVariables false
set_option linter.unusedSimpArgs false
section
variable {P : Program} {N : Nat} {F : Nat → Prop} {g g' : G} {ι : Io} {w0 w : World}
theorem plain_ok {s : Sem Value} {av : AV} (h : plainR P s g = some (.val av g')) (hs : Sat N F g ι w0 w) : Fin P N F w0 s av g g' ι w := by
  unfold plainR at h
  split at h
  · rename_i v hv
    rw [forceV_eq] at h
    cases h
    exact Fin.pure hs (ev?_run hv w) (by rw [VR])
  · cases h
theorem run_sz {t : TypeId} {n : Nat} (h : szOf P t = some n) (w : World) : (sizeOf t).run P w = .ok n w := by
  unfold szOf at h
  cases hi : P.info? t with
  | none => simp [hi] at h
  | some i =>
    simp [hi] at h
    simp [sizeOf, typeInfo, hi, h]
theorem run_agg {t : TypeId} {b : Bool} (h : aggT P t = some b) (w : World) : (isAgg t).run P w = .ok b w := by
  unfold aggT at h
  cases hu : P.underlying t with
  | none => simp [hu] at h
  | some d =>
    simp [hu] at h
    unfold isAgg
    rw [Sem.run_bind, run_underlying hu w]
    cases d <;> simp_all
theorem agg_row {t : TypeId} (h : aggT P t = some true) : ∃ d, P.underlying t = some d ∧ d.isRow = true := by
  unfold aggT at h
  cases hu : P.underlying t with
  | none => simp [hu] at h
  | some d =>
    simp [hu] at h
    exact ⟨d, rfl, by cases d <;> simp_all⟩
theorem run_zero {t : TypeId} {l : List AV} (h : zeroT P t = some l) (w : World) : ∃ z i, P.info? t = some i ∧ i.zero = some z ∧ (zeroValue t).run P w = .ok z w ∧ l = mapV z.cells.toList := by
  unfold zeroT at h
  split at h
  · rename_i i hi
    split at h
    · rename_i z hz
      cases h
      exact ⟨z, i, hi, hz, by simp [zeroValue, typeInfo, hi, hz], rfl⟩
    · cases h
  · cases h
theorem info_size {t : TypeId} {n : Nat} (h : szOf P t = some n) : (P.info? t).map (·.size) = some n := h

/-! ### load, store, alloc, box -/
theorem load_at {t : TypeId} {a av : AV} {x : Value} (h : evLoad P t a g = some (.val av g')) (hx : VR ι a x) (hF : FOK F g') (hs : Sat N F g ι w0 w) :
    ∃ v, (Instr.loadAt t x).run P w = .ok v w ∧ VR ι av v ∧ Step g g' ι ι w w ∧ Sat N F g' ι w0 w := by
  unfold evLoad at h
  split at h
  · rename_i k off
    rw [VR] at hx
    obtain ⟨b, rfl, hk⟩ := hx
    split at h
    · rename_i l g1 hr
      split at h
      · rename_i v hp
        cases h
        obtain ⟨h1, ⟨b', m, h2, h3⟩, st, sat, _⟩ := read_ok hr hF hs
        obtain rfl : b' = b := by
          rcases hk with hk | ⟨m', hk⟩
          · rw [h2] at hk; cases hk
          · rw [h2] at hk; cases hk; rfl
        unfold partR at hp
        split at hp
        · rename_i ha
          split at hp
          · rename_i n hn
            split at hp
            · rename_i cs hc
              cases hp
              obtain ⟨vs, hv, hl, hrg⟩ := h3.range (rowSlice_ok hc)
              obtain ⟨d, hd, hd2⟩ := agg_row ha
              exact ⟨_, run_loadAt_mid w b' off t vs d hrg hd hd2 (by rw [hl]; exact info_size hn), VR_mkAgg hv, st, sat⟩
            · cases hp
          · cases hp
        · rename_i ha
          replace hp := rowGet_ok hp
          rw [getL_eq] at hp
          obtain ⟨x, hx, hxr⟩ := h3.cell hp
          refine ⟨x, ?_, hxr, st, sat⟩
          simp [Instr.loadAt, Instr.sureAddr, loadVar, Sem.run_bind, run_agg ha w, hx]
        · cases hp
      · cases h
    · cases h
  · cases h
theorem load_ok {t : TypeId} {a av : AV} {x : Value} (h : evLoad P t a g = some (.val av g')) (hx : VR ι a x) (hF : FOK F g') (hs : Sat N F g ι w0 w) : Fin P N F w0 (Instr.loadAt t x) av g g' ι w := by
  obtain ⟨v, h1, h2, h3, h4⟩ := load_at (P := P) h hx hF hs
  exact ⟨ι, v, w, h1, h2, h3, h4⟩
theorem setCells_heap (w : World) (b : Nat) : ∀ (vs : List Value) (o : Nat), (w.setCells b o vs).heap.size = w.heap.size ∧ (w.setCells b o vs).os = w.os ∧ (w.setCells b o vs).tape = w.tape ∧ (w.setCells b o vs).output = w.output ∧
    (∀ d, d ≠ b → (w.setCells b o vs).heap[d]? = w.heap[d]?) ∧
    ∀ c T fr, w.heap[b]? = some (.cells c T fr) → ∃ c', (w.setCells b o vs).heap[b]? = some (.cells c' T fr) ∧ c'.size = c.size := by
  intro vs
  induction vs generalizing w with
  | nil => intro o; exact ⟨rfl, rfl, rfl, rfl, fun _ _ => rfl, fun c T fr h => ⟨c, h, rfl⟩⟩
  | cons v vs ih =>
    intro o
    rw [World.setCells]
    obtain ⟨h1, h2, h3, h4, h5, h6⟩ := ih (w.setCell ⟨b, o, none⟩ v) (o + 1)
    refine ⟨h1.trans (by simp [World.setCell]), h2, h3, h4, fun d hd => (h5 d hd).trans ?_, fun c T fr hc => ?_⟩
    · show (w.heap.modify b _)[d]? = _
      rw [Array.getElem?_modify, if_neg (fun e => hd e.symm)]
    · obtain ⟨c', h7, h8⟩ := h6 (c.setIfInBounds o v) T fr (by
        show (w.heap.modify b _)[b]? = _
        rw [Array.getElem?_modify, if_pos rfl, hc]
        simp)
      exact ⟨c', h7, by rw [h8]; simp⟩
/-- Cells stored into a block that is known. -/
theorem BR.stored {ty : Nat} {ex : Bool} {l l' cs : List AV} {vs : List Value} {b m o : Nat} (h : BR ι ty ex l w b m) (hv : VRL ι cs vs) (hl : setsL l o cs = some l') : BR ι ty ex l' (w.setCells b o vs) b m := by
  obtain ⟨h1, h2, h3⟩ := setsL_some _ _ _ _ hl
  have hlen := h.len
  obtain ⟨hvl, hvr⟩ := VRL_iff.1 hv
  have hth : w.there b o vs.length := by
    rcases h1 with h1 | h1
    · have : vs.length = 0 := by rw [hvl, h1]; rfl
      intro j hj; omega
    · exact h.there (by omega)
  obtain ⟨c, T, fr, hc, hm, hr, hf, hty, hex⟩ := h
  obtain ⟨_, _, _, _, _, h6⟩ := setCells_heap w b vs o
  obtain ⟨c', hc', hs'⟩ := h6 c T fr hc
  refine ⟨c', T, fr, hc', by omega, fun i a ha => ?_, fun off ho => hf off (by omega), hty, fun e => by rw [h2]; exact hex e⟩
  rw [h3 i] at ha
  have cell' : (w.setCells b o vs).cell? ⟨b, i, none⟩ = c'[i]? := cell_of_row _ b i c' T fr hc'
  rw [← cell']
  split at ha
  · rename_i hi
    obtain ⟨v, hv1, hv2⟩ := hvr _ _ ha
    have hj : i - o < vs.length := (List.getElem?_eq_some_iff.1 hv1).1
    have := World.cell?_setCells_in b vs o w (fun j hj => (hth j hj).1) (i - o) hj
    rw [show o + (i - o) = i by omega] at this
    refine ⟨v, ?_, hv2⟩
    rw [this, ← hv1, List.getElem?_eq_getElem hj]
  · rename_i hi
    obtain ⟨v, hv1, hv2⟩ := hr _ _ ha
    refine ⟨v, ?_, hv2⟩
    rw [World.cell?_setCells_out b vs o w ⟨b, i, none⟩ (fun _ _ => by show i < o ∨ o + vs.length ≤ i; omega), cell_of_row w b i c T fr hc, hv1]
theorem store_ok {t : TypeId} {a x av : AV} {va vx : Value} (h : evStore P t a x g = some (.val av g')) (ha : VR ι a va) (hx : VR ι x vx) (hF : FOK F g') (hs : Sat N F g ι w0 w) :
    ∃ w', (Instr.storeAt t va vx).run P w = .ok () w' ∧ av = .v undef ∧ Step g g' ι ι w w' ∧ Sat N F g' ι w0 w' := by
  unfold evStore at h
  split at h
  · rename_i k off
    rw [VR] at ha
    obtain ⟨b, rfl, hk⟩ := ha
    split at h
    · rename_i n l g1 hn hr
      split at h
      · rename_i hlen hone
        split at h
        · rename_i l' hl'
          split at h
          · rename_i g2 hw
            cases h
            obtain ⟨⟨_, _, _, rfl⟩, hl'⟩ := rowSets_ok hl'
            have hF1 : FOK F g1 := by
              rw [G.write_def] at hw
              unfold G.writeO at hw
              split at hw
              · cases hw
              · repeat' split at hw
                all_goals first
                  | (cases hw; done)
                  | (cases hw; exact ⟨fun k hk => hF.1 k (by simp [hk]), fun k hk => hF.2.1 k (by simp [hk]), hF.2.2⟩)
            obtain ⟨h1, ⟨b', m, h2, h3⟩, st, sat, hH, hn1⟩ := read_ok hr hF1 hs
            obtain rfl : b' = b := by
              rcases hk with hk | ⟨m', hk⟩
              · rw [h2] at hk; cases hk
              · rw [h2] at hk; cases hk; rfl
            have hv := VR_cells hx
            have hlv : vx.cells.size = n := by
              have := (VRL_iff.1 hv).1
              rw [Array.length_toList] at this
              rw [this]; exact beq_tt hlen
            have hb := h3.stored hv hl'
            obtain ⟨e1, e2, e3, e4, e5, _⟩ := setCells_heap w b' vx.cells.toList off
            obtain ⟨st2, sat2, _⟩ := write_ok hw hF sat (by rw [hH]; exact h1) h2 hb e1 e2 e3 e4 e5
            refine ⟨_, ?_, rfl, st.trans st2, sat2⟩
            have hth : w.there b' off vx.cells.toList.length := by
              obtain ⟨q1, q2, q3⟩ := setsL_some _ _ _ _ hl'
              have := (VRL_iff.1 hv).1
              have hlen := h3.len
              rcases q1 with q1 | q1
              · rw [q1] at this; intro j hj; rw [this] at hj; simp at hj
              · exact h3.there (by rw [this]; omega)
            have hrun := run_storeCells_cells (P := P) b' off vx.cells.toList 0 w (fun j hj => by simpa using (hth j hj).1) (fun j hj => by simpa using (hth j hj).2) (allOne_VRL hone hv)
            simp only [Nat.add_zero] at hrun
            simp [Instr.storeAt, Instr.sureAddr, storeVar, Sem.run_bind, run_sz hn w, hlv, hrun]
          · cases h
        · cases h
      · cases h
    · cases h
  · cases h
theorem alloc_instr {t : TypeId} {l : List AV} {k : Nat} {old : Value} (hz : zeroT P t = some l) (h : g.newL t true l = some (k, g')) (hN : g'.n ≤ N) (hF : FOK F g') (hs : Sat N F g ι w0 w) :
    Fin P N F w0 (Instr.alloc t true old) (.ptr k 0) g g' ι w := by
  obtain ⟨z, i, hi, hz2, hzr, rfl⟩ := run_zero hz w
  obtain ⟨ι', st, sat, hk, hle⟩ := alloc_ok (T := t) h hN hF hs (VRL_mapV z.cells.toList)
  refine ⟨ι', .pointer (some ⟨w.heap.size, 0, none⟩), _, ?_, by rw [VR]; exact ⟨_, rfl, .inr ⟨_, hk⟩⟩, st, sat⟩
  simp [Instr.alloc, Sem.run_bind, hzr, newVar, newRow]
theorem box_instr {t : TypeId} {a : AV} {x : Value} {k : Nat} (h : g.newL t true a.cells = some (k, g')) (hx : VR ι a x) (hN : g'.n ≤ N) (hF : FOK F g') (hs : Sat N F g ι w0 w) :
    Fin P N F w0 (Instr.box t x) (.ptr k 0) g g' ι w := by
  obtain ⟨ι', st, sat, hk, hle⟩ := alloc_ok (T := t) h hN hF hs (VR_cells hx)
  refine ⟨ι', .pointer (some ⟨w.heap.size, 0, none⟩), _, ?_, by rw [VR]; exact ⟨_, rfl, .inr ⟨_, hk⟩⟩, st, sat⟩
  simp [Instr.box, Sem.run_bind, newVar, newRow]
end
end Go.Proofs.YtjblkeofjkdpbaaGreatDoor.Eng
