/- Each operation of the evaluator is the model's: append, copy, conversions, builtins; then all operations. No condition. -/
import Derived.Test.YtjblkeofjkdpbaaGreatDoorEngF
import Derived.Lib.Builder
import Derived.Lib.UnsafeStr
namespace Go.Proofs.YtjblkeofjkdpbaaGreatDoor.Eng
open Go Go.RowKit
set_option linter.unusedVariables false
set_option linter.unusedSimpArgs false
theorem append_ts {ts : Array TypeId} {t t2 ty : TypeId} {args : Array Value} (h0 : ts[0]? = some t) (h1 : ts[1]? = some t2) : Builtin.append_ ts ty args = Builtin.append_ #[t, t2] ty args := by
  unfold Builtin.append_
  simp [h0, h1]
theorem copy_ts {ts : Array TypeId} {t ty ty' : TypeId} {args : Array Value} (h0 : ts[0]? = some t) : Builtin.copy_ ts ty args = Builtin.copy_ #[t] ty' args := by
  unfold Builtin.copy_
  simp [h0]
theorem FOK.read {F : Nat → Prop} {g g' : G} {k : Nat} {l : Row} (h : FOK F g') (hr : g.read k = some (l, g')) : FOK F g := by
  rw [G.read_def] at hr
  unfold G.readO at hr
  split at hr
  · cases hr
  · split at hr
    · cases hr
    · split at hr <;> cases hr
      · exact ⟨fun j hj => h.1 j (by simp [hj]), h.2.1, h.2.2⟩
      · exact h
theorem FOK.write {F : Nat → Prop} {g g' : G} {k : Nat} {o : Option Row} (h : FOK F g') (hw : g.write k o = some g') : FOK F g := by
  rw [G.write_def] at hw
  unfold G.writeO at hw
  repeat' split at hw
  all_goals first
    | (cases hw; done)
    | (cases hw; first
        | exact h
        | exact ⟨fun j hj => h.1 j (by simp [hj]), fun j hj => h.2.1 j (by simp [hj]), h.2.2⟩)
theorem FOK.new {F : Nat → Prop} {g g' : G} {k : Nat} {l : Row} (h : FOK F g') (hw : g.new l = some (k, g')) : FOK F g := by
  rw [G.new_def] at hw
  unfold G.newO at hw
  split at hw
  · cases hw
  · rw [forceNat_eq] at hw
    cases hw
    exact h
theorem FOK.newL {F : Nat → Prop} {g g' : G} {ty : Nat} {ex : Bool} {k : Nat} {l : List AV} (h : FOK F g') (hw : g.newL ty ex l = some (k, g')) : FOK F g := by
  obtain ⟨_, _, _, h1, _⟩ := newL_some hw
  exact h.new h1
theorem FOK.cells {F : Nat → Prop} {g g' : G} {size n : Nat} {a : AV} {cs : List AV} (h : FOK F g') (hw : cellsOf size a n g = some (cs, g')) : FOK F g := by
  unfold cellsOf at hw
  split at hw
  · split at hw
    · split at hw
      · rename_i hr
        split at hw
        · cases hw; exact h.read hr
        · cases hw
      · cases hw
    · cases hw
  · split at hw <;> cases hw
    exact h
  · split at hw <;> cases hw
    exact h
  · split at hw <;> cases hw
    exact h
  · cases hw
theorem new_n {g g' : G} {k : Nat} {l : Row} (hw : g.new l = some (k, g')) : g'.n = g.n + 1 := by
  rw [G.new_def] at hw
  unfold G.newO at hw
  split at hw
  · cases hw
  · rw [forceNat_eq] at hw
    cases hw
    rfl
theorem FOK.grow {F : Nat → Prop} {g g' : G} {elem size k len sz : Nat} {new : List AV} {row : Row} (h : FOK F g') (hw : growRow elem size k len sz new g = some (row, g')) : FOK F g := by
  obtain ⟨_, _, hr, _⟩ := growRow_ok hw
  exact h.read hr
theorem FOK.appendTo {F : Nat → Prop} {g g' : G} {elem size m : Nat} {s av : AV} {new : List AV} (h : FOK F g') (hw : evAppendTo elem size m s new g = some (.val av g')) : FOK F g := by
  unfold evAppendTo at hw
  split at hw
  · split at hw
    · cases hw; exact h
    · split at hw
      · rename_i hn
        cases hw; exact h.newL hn
      · cases hw
  · split at hw
    · cases hw; exact h
    · split at hw
      · split at hw
        · split at hw
          · rename_i hr
            split at hw
            · split at hw
              · rename_i hwr
                cases hw
                exact (h.write hwr).read hr
              · cases hw
            · cases hw
          · cases hw
        · split at hw
          · rename_i hc
            split at hw
            · split at hw
              · rename_i hn
                cases hw
                exact (h.newL hn).cells hc
              · cases hw
            · cases hw
          · cases hw
      · split at hw
        · rename_i hc
          split at hw
          · rename_i hkl
            split at hw
            · rename_i hn
              cases hw
              exact ((h.new hn).write hkl).grow hc
            · cases hw
          · cases hw
        · cases hw
    · cases hw
  · cases hw
/-- The first cells of a block. -/
theorem BR.pre {ty : Nat} {ex : Bool} {ι : Io} {l old : List AV} {w : World} {b m n : Nat} (h : BR ι ty ex l w b m) (hs : slice? l 0 n = some old) : BR ι ty false old w b m := by
  obtain ⟨h1, h2, h3⟩ := slice?_some hs
  obtain ⟨c, T, fr, hc, hm, hr, hf, hty, hex⟩ := h
  refine ⟨c, T, fr, hc, hm, fun i a ha => ?_, hf, hty, fun e => by cases e⟩
  have hi : i < n := by rw [← h1]; exact (List.getElem?_eq_some_iff.1 ha).1
  rw [h3 i hi, Nat.zero_add] at ha
  exact hr i a ha
theorem BR.extend {ty : Nat} {ex : Bool} {ι : Io} {old new : List AV} {vs : List Value} {w : World} {b m : Nat} (h : BR ι ty ex old w b m) (hv : VRL ι new vs) (hm : old.length + vs.length ≤ m) : BR ι ty false (old ++ new) (w.setCells b old.length vs) b m := by
  have hth : w.there b old.length vs.length := h.there hm
  obtain ⟨hvl, hvr⟩ := VRL_iff.1 hv
  obtain ⟨c, T, fr, hc, hm', hr, hf, hty, hex⟩ := h
  obtain ⟨_, _, _, _, _, h6⟩ := setCells_heap w b vs old.length
  obtain ⟨c', hc', hs'⟩ := h6 c T fr hc
  refine ⟨c', T, fr, hc', by omega, fun i a ha => ?_, fun off ho => hf off (by omega), hty, fun e => by cases e⟩
  have cell' : (w.setCells b old.length vs).cell? ⟨b, i, none⟩ = c'[i]? := cell_of_row _ b i c' T fr hc'
  rw [← cell']
  by_cases hi : i < old.length
  · rw [List.getElem?_append_left hi] at ha
    obtain ⟨v, hv1, hv2⟩ := hr _ _ ha
    refine ⟨v, ?_, hv2⟩
    rw [World.cell?_setCells_out b vs old.length w ⟨b, i, none⟩ (fun _ _ => .inl hi), cell_of_row w b i c T fr hc, hv1]
  · rw [List.getElem?_append_right (by omega)] at ha
    obtain ⟨v, hv1, hv2⟩ := hvr _ _ ha
    have hj : i - old.length < vs.length := (List.getElem?_eq_some_iff.1 hv1).1
    have := World.cell?_setCells_in b vs old.length w (fun j hj => (hth j hj).1) (i - old.length) hj
    rw [show old.length + (i - old.length) = i by omega] at this
    exact ⟨v, by rw [this, ← hv1, List.getElem?_eq_getElem hj], hv2⟩
section
variable {P : Program} {N : Nat} {F : Nat → Prop} {g g' : G} {ι : Io} {w0 w : World}
theorem run_append_nil0 (t tx ty e : TypeId) (i : TypeInfo) (ht : P.underlying t = some (.slice e)) (hi : P.info? e = some i) (x : Value) (news : List Value) (hs : Src P i.size tx x 0 news w) :
    (Builtin.append_ #[t, tx] ty #[.slice none 0 0, x]).run P w = .ok (.slice none 0 0) w := by
  have h0 : news = [] := List.eq_nil_of_length_eq_zero (by rw [hs.newsLen]; simp)
  rcases hs.kind with ⟨e', hk⟩ | hk <;> simp [Builtin.append_, run_underlying ht, run_underlying hk, sizeOf, typeInfo, hi, hs.len, hs.cells, h0]
theorem appendTo_ok {t tx ty elem : TypeId} {i : TypeInfo} {z : Value} {size m : Nat} {s av : AV} {new : List AV} {vs : List Value} {x y : Value} (h : evAppendTo elem size m s new g = some (.val av g'))
    (ht : P.underlying t = some (.slice elem)) (hi : P.info? elem = some i) (hz : i.zero = some z) (his : i.size = size) (hzs : z.cells.size = size) (hby : i.bytes ≤ 1024)
    (hy : VR ι s y) (hnew : VRL ι new vs) (hsrc : Src P size tx x m vs w) (hN : g'.n ≤ N) (hF : FOK F g') (hs : Sat N F g ι w0 w) :
    Fin P N F w0 (Builtin.append_ #[t, tx] ty #[y, x]) av g g' ι w := by
  subst his
  have hbig : ∀ n c, c < n → n ≤ 1048576 → Builtin.nextslicecap n c * i.bytes ≤ 281474976710656 := fun n c hc hn => growslice_fits hc (by
    have : n * i.bytes ≤ 1048576 * 1024 := Nat.mul_le_mul hn hby
    omega)
  unfold evAppendTo at h
  split at h
  · rw [VR] at hy
    subst hy
    split at h
    · cases h
      exact Fin.pure hs (run_append_nil0 t tx ty elem i ht hi x vs hsrc) (by rw [VR])
    · rename_i m
      split at h
      · rename_i k g1 hle hn
        cases h
        have hle' := Nat.le_of_ble_eq_true hle
        have hr := run_append_grow_src (P := P) w t tx ty elem i z ht hi hz none 0 0 [] (run_firstCells_none _ _ _ _ _) x (m + 1) vs hsrc (by omega) (by omega) (by rw [Nat.zero_add]; exact hbig _ _ (by omega) hle')
        rw [Nat.zero_add, List.nil_append] at hr
        obtain ⟨ι', hv, st, sat⟩ := grown_ok (e := elem) (z := z) (cap := grownCap w (m + 1) 0 elem) hn hnew hsrc.newsLen hzs (grownCap_ge _ _ _ _) hN hF hs
        exact ⟨ι', _, _, hr, hv, st, sat⟩
      · cases h
  · rename_i k off len cap sz
    have hy0 := hy
    rw [VR] at hy
    obtain ⟨b, c, rfl, hlc, hcap, hk⟩ := hy
    split at h
    · rename_i hsz _
      cases h
      refine Fin.pure hs (v := .slice (some ⟨b, off, none⟩) len c) ?_ hy0
      have h0 : vs = [] := List.eq_nil_of_length_eq_zero (by rw [hsrc.newsLen]; simp)
      have := run_append_room_src (P := P) w t tx ty elem i ht hi b off len c x 0 vs hsrc (by omega) (fun j hj => by rw [h0] at hj; simp at hj) (fun j hj => by rw [h0] at hj; simp at hj)
      rw [this, h0]; rfl
    · rename_i m hsz hle
      obtain rfl : sz = i.size := beq_tt hsz
      have hle' := Nat.le_of_ble_eq_true hle
      split at h
      · rename_i c' 
        obtain rfl : c = c' := hcap c' rfl
        split at h
        · rename_i hroom
          have hroom' := Nat.le_of_ble_eq_true hroom
          split at h
          · rename_i l g1 hr
            split at h
            · rename_i l' hl'
              split at h
              · rename_i g2 hw
                cases h
                obtain ⟨⟨_, _, _, rfl⟩, hl'⟩ := rowSets_ok hl'
                obtain ⟨h1, ⟨b', q, h2, h3⟩, st, sat, e1, e2⟩ := read_ok hr (hF.write hw) hs
                obtain rfl : b' = b := by
                  rcases hk with hk | ⟨m', hk, _⟩
                  · rw [h2] at hk; cases hk
                  · rw [h2] at hk; cases hk; rfl
                have hb := h3.stored hnew hl'
                obtain ⟨a1, a2, a3, a4, a5, _⟩ := setCells_heap w b' vs (off + len * i.size)
                obtain ⟨st2, sat2, _⟩ := write_ok hw hF sat (by rw [e1]; exact h1) h2 hb a1 a2 a3 a4 a5
                have hth : w.there b' (off + len * i.size) vs.length := by
                  obtain ⟨q1, q2, q3⟩ := setsL_some _ _ _ _ hl'
                  have hlv := (VRL_iff.1 hnew).1
                  have hlen := h3.len
                  rcases q1 with q1 | q1
                  · rw [q1] at hlv; intro j hj; rw [hlv] at hj; simp at hj
                  · exact h3.there (by rw [hlv]; omega)
                have hrun := run_append_room_src (P := P) w t tx ty elem i ht hi b' off len c x (m + 1) vs hsrc hroom' (fun j hj => (hth j hj).1) (fun j hj => (hth j hj).2)
                refine ⟨ι, _, _, hrun, ?_, st.trans st2, sat2⟩
                rw [VR]
                exact ⟨b', c, rfl, hroom', fun c' e => by cases e; rfl, .inr ⟨q, h2, fun e => by cases e⟩⟩
              · cases h
            · cases h
          · cases h
        · rename_i hroom
          have hroom' : c < len + (m + 1) := by
            rcases Nat.lt_or_ge c (len + (m + 1)) with e | e
            · exact e
            · rw [Nat.ble_eq_true_of_le e] at hroom; cases hroom
          split at h
          · rename_i old g1 hc
            split at h
            · rename_i all hall
              split at h
              · rename_i k2 g2 hn
                cases h
                obtain ⟨us, hu, hul, hur, st, sat, e1, e2⟩ := cellsOf_ok (P := P) hc hy0 (hF.newL hn) hs
                have hr := run_append_grow_src (P := P) w t tx ty elem i z ht hi hz (some ⟨b, off, none⟩) len c us (hur w.drew rfl) x (m + 1) vs hsrc hroom' (by omega) (hbig _ _ hroom' hle')
                rw [appL_some _ _ _ hall] at hn
                obtain ⟨ι', hv, st2, sat2⟩ := grown_ok (e := elem) (z := z) (cap := grownCap w (len + (m + 1)) c elem) hn (VRL_app hu hnew) (by rw [List.length_append, hul, hsrc.newsLen, ← Nat.add_mul]) hzs (grownCap_ge _ _ _ _) hN hF sat
                exact ⟨ι', _, _, hr, hv, st.trans st2, sat2⟩
              · cases h
            · cases h
          · cases h
      · split at h
        · rename_i all g1 hoff hgr
          obtain rfl : off = 0 := beq_tt hoff
          split at h
          · rename_i g2 hkill
            split at h
            · rename_i k2 g3 hn
              cases h
              obtain ⟨old, l, hrd, _, hlty, hsl, hc, ⟨rn, rp, rt, rfl⟩, hall⟩ := growRow_ok hgr
              have hF2 := hF.new hn
              have hF1 := hF2.write hkill
              obtain ⟨us, hu, hul, hur, st, sat, e1, e2⟩ := cellsOf_ok (P := P) hc hy0 hF1 hs
              have hnlen := new_n hn
              obtain ⟨hl, q, hιk, hbr, hcq⟩ : g1.H.get k = some l ∧ ∃ q, ι k = .at_ b q ∧ BR ι elem l.ex l.toL w b q ∧ 0 + c * i.size ≤ q := by
                obtain ⟨h1, ⟨b', q, h2, h3⟩, _, _, e1', _⟩ := read_ok hrd hF1 hs
                rcases hk with hk | ⟨m', hk, hq⟩
                · rw [h2] at hk; cases hk
                · rw [h2] at hk; cases hk
                  exact ⟨by rw [e1']; exact h1, _, h2, by rw [hlty] at h3; exact h3, hq rfl⟩
              by_cases hroom : len + (m + 1) ≤ c
              · have hvl := (VRL_iff.1 hnew).1
                have hol : old.length = len * i.size := (slice?_some hsl).1
                have e3 : len * i.size + (m + 1) * i.size ≤ c * i.size := by rw [← Nat.add_mul]; exact Nat.mul_le_mul_right _ hroom
                have hvs : vs.length = (m + 1) * i.size := hsrc.newsLen
                have hth : w.there b (0 + len * i.size) vs.length := hbr.there (by rw [hvs]; omega)
                have hrun := run_append_room_src (P := P) w t tx ty elem i ht hi b 0 len c x (m + 1) vs hsrc hroom (fun j hj => (hth j hj).1) (fun j hj => (hth j hj).2)
                obtain ⟨a1, a2, a3, a4, a5, _⟩ := setCells_heap w b vs (0 + len * i.size)
                have hb := (hbr.pre hsl).extend hnew (by rw [hol, hvs]; omega)
                rw [hol, ← Nat.zero_add (len * i.size), ← hall] at hb
                obtain ⟨ι', st2, sat2, hk2⟩ := move_ok hkill hn hN hF sat hl hιk hb a1 a2 a3 a4 a5
                refine ⟨ι', _, _, hrun, ?_, st.trans st2, sat2⟩
                rw [VR]
                exact ⟨b, c, rfl, hroom, (fun c' e => by cases e), .inr ⟨q, hk2, fun _ => hcq⟩⟩
              · have hroom' : c < len + (m + 1) := by omega
                have hr := run_append_grow_src (P := P) w t tx ty elem i z ht hi hz (some ⟨b, 0, none⟩) len c us (hur w.drew rfl) x (m + 1) vs hsrc hroom' (by omega) (hbig _ _ hroom' hle')
                obtain ⟨ι1, st1, sat1, hle1, hd1, ho1, en1, hw1, hg1⟩ := kill_ok hkill sat hl hιk
                obtain ⟨ι', hv, st2, sat2⟩ := grown_okR (e := elem) (z := z) (cap := grownCap w (len + (m + 1)) c elem) hn (by rw [hall]; exact (VRL_app hu hnew).mono hle1) (by rw [List.length_append, hul, hsrc.newsLen, ← Nat.add_mul]) hzs (grownCap_ge _ _ _ _) hN hF sat1
                exact ⟨ι', _, _, hr, hv, (st.trans st1).trans st2, sat2⟩
            · cases h
          · cases h
        · cases h
    · cases h
  · cases h
theorem append_ok {ts : Array TypeId} {t tx ty : TypeId} {s x av : AV} {vs vx : Value} (h : evAppend P t s x g = some (.val av g')) (h0 : ts[0]? = some t) (h1 : ts[1]? = some tx) (hk : (∃ e', P.underlying tx = some (.slice e')) ∨ P.underlying tx = some .string)
    (hy : VR ι s vs) (hx : VR ι x vx) (hN : g'.n ≤ N) (hF : FOK F g') (hs : Sat N F g ι w0 w) : Fin P N F w0 (Builtin.append_ ts ty #[vs, vx]) av g g' ι w := by
  rw [append_ts h0 h1]
  unfold evAppend at h
  split at h
  · rename_i elem hu
    split at h
    · rename_i size m inf zero hn hm hi hz
      split at h
      · rename_i new g1 hby hzl hc
        split at h
        · rename_i hone
          obtain ⟨z, i, hi', hz2, _, rfl⟩ := run_zero hz w
          rw [hi] at hi'
          cases hi'
          have hF1 : FOK F g1 := hF.appendTo h
          obtain ⟨us, hv, hsrc, st, sat, e1, e2⟩ := src_ok hk hm hc hone hx hF1 hs
          have his : inf.size = size := by unfold szOf at hn; simpa [hi] using hn
          have hzs : z.cells.size = size := by
            have := beq_tt hzl
            rw [mapV_eq, List.length_map, Array.length_toList] at this
            exact this
          obtain ⟨ι', v, w', hr, hvr, st2, sat2⟩ := appendTo_ok (tx := tx) (ty := ty) h hu hi hz2 his hzs (Nat.le_of_ble_eq_true hby) hy hv hsrc hN hF sat
          exact ⟨ι', v, w', hr, hvr, st.trans st2, sat2⟩
        · cases h
      · cases h
    · cases h
  · cases h
theorem size_some {t : TypeId} {n : Nat} (h : szOf P t = some n) : ∃ i, P.info? t = some i ∧ i.size = n := by
  unfold szOf at h
  cases hi : P.info? t with
  | none => simp [hi] at h
  | some i => simp [hi] at h; exact ⟨i, rfl, h⟩
theorem minN_eq (m n : Nat) : minN m n = Nat.min m n := by
  unfold minN
  split
  · rename_i h; exact (Nat.min_eq_left (Nat.le_of_ble_eq_true h)).symm
  · rename_i h
    have : ¬ m ≤ n := fun e => by rw [Nat.ble_eq_true_of_le e] at h; cases h
    exact (Nat.min_eq_right (by omega)).symm
theorem copy_ok {ts : Array TypeId} {t ty : TypeId} {d s av : AV} {vd vs : Value} (h : evCopy P t d s g = some (.val av g')) (h0 : ts[0]? = some t) (hd : VR ι d vd) (hx : VR ι s vs) (hF : FOK F g') (hs : Sat N F g ι w0 w) :
    Fin P N F w0 (Builtin.copy_ ts ty #[vd, vs]) av g g' ι w := by
  unfold evCopy at h
  split at h
  · rename_i elem hu
    split at h
    · rename_i size m n hn hm hl
      split at h
      · rename_i cs g1 hc
        split at h
        · cases h
          obtain ⟨us, hv, hul, hur, st, sat, e1, e2⟩ := cellsOf_ok (P := P) hc hx hF hs
          rw [VR] at hd
          subst hd
          simp [lenOf?] at hl
          subst hl
          refine ⟨ι, _, w, ?_, by rw [VR], st, sat⟩
          rw [minN_eq] at hur
          simp [Builtin.copy_, h0, run_underlying hu, lenOf_ok hm hx, run_sz hn, minN_eq, hur w rfl]
        · rename_i k off dl cap sz
          split at h
          · rename_i l g2 hsz hr
            obtain rfl : sz = size := beq_tt hsz
            split at h
            · rename_i l' hl' hone
              split at h
              · rename_i g3 hw
                cases h
                obtain ⟨⟨_, _, _, rfl⟩, hl'⟩ := rowSets_ok hl'
                have hF2 := hF.write hw
                obtain ⟨us, hv, hul, hur, st, sat, e1, e2⟩ := cellsOf_ok (P := P) hc hx (hF2.read hr) hs
                rw [VR] at hd
                obtain ⟨b, c, rfl, hlc, hcap, hk⟩ := hd
                simp [lenOf?] at hl
                subst hl
                obtain ⟨h1, ⟨b', q, h2, h3⟩, st2, sat2, e3, e4⟩ := read_ok hr hF2 sat
                obtain rfl : b' = b := by
                  rcases hk with hk | ⟨m', hk, _⟩
                  · rw [h2] at hk; cases hk
                  · rw [h2] at hk; cases hk; rfl
                have hb := h3.stored hv hl'
                obtain ⟨a1, a2, a3, a4, a5, _⟩ := setCells_heap w b' us off
                obtain ⟨st3, sat3, _⟩ := write_ok hw hF sat2 (by rw [e3]; exact h1) h2 hb a1 a2 a3 a4 a5
                have hth : w.there b' off us.length := by
                  obtain ⟨q1, q2, q3⟩ := setsL_some _ _ _ _ hl'
                  have hlv := (VRL_iff.1 hv).1
                  have hlen := h3.len
                  rcases q1 with q1 | q1
                  · rw [q1] at hlv; intro j hj; rw [hlv] at hj; simp at hj
                  · exact h3.there (by rw [hlv]; omega)
                have hrun := run_storeCells_cells (P := P) b' off us 0 w (fun j hj => by simpa using (hth j hj).1) (fun j hj => by simpa using (hth j hj).2) (allOne_VRL hone hv)
                simp only [Nat.add_zero] at hrun
                refine ⟨ι, _, _, ?_, by rw [VR], (st.trans st2).trans st3, sat3⟩
                rw [minN_eq] at hur
                simp [Builtin.copy_, h0, run_underlying hu, lenOf_ok hm hx, run_sz hn, minN_eq, hur w rfl, hrun]
              · cases h
            · cases h
          · cases h
        · cases h
      · cases h
    · cases h
  · cases h
theorem bytesAV_some : ∀ {cs : List AV} {bs : List Int} {vs : List Value}, bytesAV cs = some bs → VRL ι cs vs → vs = bs.map (Value.int .u8)
  | [], bs, vs, h, k => by simp [bytesAV] at h; rw [VRL] at k; subst h; subst k; rfl
  | a :: cs, bs, vs, h, k => by
    rw [VRL] at k
    obtain ⟨v, us, rfl, h1, h2⟩ := k
    unfold bytesAV at h
    split at h
    · rename_i heq
      cases heq
    · rename_i n l heq
      cases heq
      split at h
      · rename_i ys hy
        cases h
        rw [VR] at h1
        rw [h1, bytesAV_some hy h2]; rfl
      · cases h
    · cases h
theorem convert_ok {src dst : TypeId} {x av : AV} {v : Value} (h : evConvert P src dst x g = some (.val av g')) (hx : VR ι x v) (hN : g'.n ≤ N) (hF : FOK F g') (hs : Sat N F g ι w0 w) : Fin P N F w0 (convert src dst v) av g g' ι w := by
  unfold evConvert at h
  split at h
  · rename_i s
    rw [VR] at hx
    subst hx
    split at h
    · rename_i e u hd hsrc
      split at h
      · rename_i he
        split at h
        · rename_i k g1 hn
          cases h
          have hr := Lib.run_convert_string_bytes w src dst e s hsrc hd he
          have hcap : s.size ≤ grownCap w s.size 0 e := grownCap_ge _ _ _ _
          have hsz : (Lib.bytesCells w e s).size = s.size + (grownCap w s.size 0 e - s.size) := by
            unfold Lib.bytesCells
            rw [Array.size_append, Array.size_map, Array.size_replicate]; rfl
          have hl : ((s.data.map fun b => Value.int .u8 b.toNat).toList).length = s.size := by rw [Array.length_toList, Array.size_map]; rfl
          have hat : (Lib.bytesWorld w e s).heap[w.heap.size]? = some (.cells (((s.data.map fun b => Value.int .u8 b.toNat).toList).toArray ++ Array.replicate (grownCap w s.size 0 e - s.size) (.int .u8 0)) e ((Lib.bytesCells w e s).size, (Lib.bytesCells w e s).size + 1)) := Lib.bytesWorld_at_new w e s
          obtain ⟨ι', st, sat, hk, hle⟩ := new_ok (w' := Lib.bytesWorld w e s) hn hN hF hs (BR_alloc (T := e) (VRL_mapV _) _ _ (fun off ho => by rw [hl, Array.size_replicate] at ho; rw [hsz]; omega) (fun e => by cases e) hat) (Lib.bytesWorld_size w e s) rfl rfl rfl (fun d hd => Lib.bytesWorld_at_old w e s d hd)
          refine ⟨ι', _, _, hr, ?_, st, sat⟩
          rw [VR]
          refine ⟨w.heap.size, _, rfl, hcap, (fun c' e => by cases e), .inr ⟨_, hk, fun _ => ?_⟩⟩
          rw [hl, Array.size_replicate]
          omega
        · cases h
      · cases h
    · exact plain_ok h hs
  · rw [VR] at hx
    subst hx
    exact plain_ok h hs
  · rename_i k off len cap sz
    split at h
    · rename_i e hsrc hd
      split at h
      · rename_i he
        split at h
        · rename_i cs g1 hc
          split at h
          · rename_i bs hb
            cases h
            obtain ⟨us, hv, hul, hur, st, sat, e1, e2⟩ := cellsOf_ok (P := P) hc hx hF hs
            have hx' := hx
            rw [VR] at hx'
            obtain ⟨b, c, rfl, _⟩ := hx'
            refine ⟨ι, .string (strOfNums bs), w, ?_, by rw [VR], st, sat⟩
            have hl := hur w rfl
            simp only [Builtin.firstCells, Nat.mul_one, bytesAV_some hb hv] at hl
            rw [run_convert_bytes_string w src dst e _ len c hsrc he hd, run_bytesToString w _ len c bs hl, foldl_push_bytes]
            simp [strOfNums, ByteArray.empty, ByteArray.emptyWithCapacity]
            rfl
          · cases h
        · cases h
      · cases h
    · cases h
  · rename_i k off
    have hx' := hx
    rw [VR] at hx'
    obtain ⟨b, rfl, hk⟩ := hx'
    split at h
    · rename_i t hsrc hd
      split at h
      · rename_i j ty ex n pat tr g1 hsz hr
        split at h
        · rename_i hlt
          cases h
          obtain ⟨h1, ⟨b', q, h2, h3⟩, st, sat, _⟩ := read_ok hr hF hs
          obtain rfl : b' = b := by
            rcases hk with hk | ⟨m', hk⟩
            · rw [h2] at hk; cases hk
            · rw [h2] at hk; cases hk; rfl
          obtain ⟨i, hi, his⟩ := size_some hsz
          have hlen := h3.len
          rw [toL_len] at hlen
          have hlt' : off < n := by simpa [Nat.blt_eq] using hlt
          exact ⟨ι, _, w, Lib.run_to_unsafe w ⟨b', off, none⟩ hsrc hd hi (by omega) h3.shape (show off < q by omega), hx, st, sat⟩
        · cases h
      · cases h
    · rename_i u hsrc hd
      split at h
      · rename_i j ty n pat tr g1 hsz hr
        split at h
        · rename_i hlies
          cases h
          obtain ⟨h1, ⟨b', q, h2, h3⟩, st, sat, _⟩ := read_ok hr hF hs
          obtain rfl : b' = b := by
            rcases hk with hk | ⟨m', hk⟩
            · rw [h2] at hk; cases hk
            · rw [h2] at hk; cases hk; rfl
          obtain ⟨i, hi, his⟩ := size_some hsz
          have hq : q = n := by
            obtain ⟨_, _, _, _, _, _, _, _, hex⟩ := h3
            rw [hex rfl, toL_len]
          exact ⟨ι, _, w, Lib.run_from_unsafe w ⟨b', off, none⟩ hsrc hd hi h3.shape (by rw [hq]; exact hlies), hx, st, sat⟩
        · cases h
      · cases h
    · cases h
  · cases h
theorem freeze_heap (w : World) (b n : Nat) : (w.freeze ⟨b, 0, none⟩ n).heap.size = w.heap.size ∧ (w.freeze ⟨b, 0, none⟩ n).os = w.os ∧ (w.freeze ⟨b, 0, none⟩ n).tape = w.tape ∧ (w.freeze ⟨b, 0, none⟩ n).output = w.output ∧
    ∀ d, d ≠ b → (w.freeze ⟨b, 0, none⟩ n).heap[d]? = w.heap[d]? := by
  unfold World.freeze
  split
  · exact ⟨rfl, rfl, rfl, rfl, fun _ _ => rfl⟩
  · exact ⟨by simp, rfl, rfl, rfl, fun d hd => by rw [Array.getElem?_modify, if_neg (fun e => hd e.symm)]⟩
theorem unsafeString_ok {pt it ty : TypeId} {k off n : Nat} {v : Value} {av : AV} (h : evUnsafeString P pt k off n g = some (.val av g')) (hx : VR ι (.ptr k off) v) (hF : FOK F g') (hs : Sat N F g ι w0 w) :
    Fin P N F w0 (Builtin.unsafeString_ #[pt, it] ty #[v, .int .i64 (.ofNat n)]) av g g' ι w := by
  unfold evUnsafeString at h
  split at h
  · rename_i e l g1 hpt hr
    split at h
    · rename_i cs hty hc1 hpos hmax hsl
      split at h
      · rename_i bs hbs
        split at h
        · rename_i hall
          split at h
          · rename_i g2 hw
            cases h
            rw [VR] at hx
            obtain ⟨b, rfl, hk⟩ := hx
            obtain ⟨h1, ⟨b', q, h2, h3⟩, st, sat, e1, _⟩ := read_ok hr (hF.write hw) hs
            obtain rfl : b' = b := by
              rcases hk with hk | ⟨m', hk⟩
              · rw [h2] at hk; cases hk
              · rw [h2] at hk; cases hk; rfl
            obtain ⟨vs, hv, hl, hrg⟩ := h3.range (rowSlice_ok hsl)
            have hlen := h3.len
            obtain ⟨_, hfit, _⟩ := slice?_some (rowSlice_ok hsl)
            have hbl : bs.length = n := by
              have := bytesAV_some hbs hv
              rw [this, List.length_map] at hl
              exact hl
            have hmax' := Nat.le_of_ble_eq_true hmax
            have hpos' : 0 < n := by simpa [Nat.blt_eq] using hpos
            have hbb : ∀ x ∈ bs, 0 ≤ x ∧ x < 256 := by
              intro x hx
              have := List.all_eq_true.1 hall x hx
              simpa using this
            obtain ⟨f1, f2, f3, f4, f5⟩ := freeze_heap w b' n
            obtain ⟨ι', st2, sat2, hle, _⟩ := kill_okW hw sat (by rw [e1]; exact h1) h2 f1 f2 f3 f4 f5
            have hl8 : (bs.map fun x => UInt8.ofNat x.toNat).length = n := by rw [List.length_map, hbl]
            have hrun := Lib.run_unsafeString_row (P := P) w pt it ty e hpt (beq_tt hc1) b' q (by rw [h3.shape, beq_tt hty]) (bs.map fun x => UInt8.ofNat x.toNat) (by
                intro e0; rw [e0] at hl8; simp at hl8; omega) (by omega) (by omega) (fun j x hj => by
                rw [Addr.add_lit, Nat.zero_add]
                rw [List.getElem?_map] at hj
                obtain ⟨y, hy, rfl⟩ := Option.map_eq_some_iff.1 hj
                have hv' := hrg j (.int .u8 y) (by rw [bytesAV_some hbs hv, List.getElem?_map, hy]; rfl)
                rw [Nat.zero_add] at hv'
                rw [hv']
                obtain ⟨y0, y1⟩ := hbb y (List.mem_of_getElem? hy)
                have e3 : ((UInt8.ofNat y.toNat).toNat : Int) = y := by
                  rw [UInt8.toNat_ofNat']
                  omega
                rw [e3])
            rw [hl8] at hrun
            exact ⟨ι', .string (strOfNums bs), _, hrun, by rw [VR], st.trans st2, sat2⟩
          · cases h
        · cases h
      · cases h
    · cases h
  · cases h
end
end Go.Proofs.YtjblkeofjkdpbaaGreatDoor.Eng
