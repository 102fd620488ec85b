/- Each operation of the evaluator is the model's: maps. No condition. -/
import Derived.Test.YtjblkeofjkdpbaaGreatDoorEngG
import Derived.RangeFuncRecord
import Derived.Maps.RangeRun
import Derived.Lib.AppendZerosOnto
namespace Go.Proofs.YtjblkeofjkdpbaaGreatDoor.Eng
open Go Go.RowKit
set_option linter.unusedVariables false
set_option linter.unusedSimpArgs false
/-! ### Keys -/
theorem bytes_eq {a b : ByteArray} (h : (a == b) = true) : a = b := by
  cases a with | mk a =>
  cases b with | mk b =>
  have h2 : (a == b) = true := h
  rw [eq_of_beq h2]
theorem bytes_self (a : ByteArray) : (a == a) = true := by
  cases a with | mk a =>
  show (a == a) = true
  simp
theorem sameNow_eq {d : TypeDesc} {k x : Value} (h : Instr.sameNow d k x = some true) : k = x := by
  unfold Instr.sameNow at h
  split at h
  · split at h
    · rename_i e; subst e
      simp only [Option.some.injEq, beq_iff_eq] at h
      rw [h]
    · cases h
  · simp only [Option.some.injEq] at h
    rw [bytes_eq h]
  · simp only [Option.some.injEq] at h
    rw [eq_of_beq h]
  · cases h
theorem keyOK_same {d : TypeDesc} {k : Value} (h : keyOK d k = true) : Instr.sameNow d k k = some true := by
  unfold keyOK at h
  split at h
  · rename_i e; exact e
  · cases h
theorem noneM_all {d : TypeDesc} {k : Value} : ∀ {ks : List Value}, noneM d k ks = true → ∀ y ∈ ks, Instr.sameNow d k y = some false
  | [], _, y, hy => by cases hy
  | x :: xs, h, y, hy => by
    simp only [noneM] at h
    split at h
    · rename_i e
      rcases List.mem_cons.1 hy with rfl | hy
      · exact e
      · exact noneM_all h y hy
    · cases h
theorem findM_some {d : TypeDesc} {k : Value} : ∀ {ks : List Value} {i j : Nat}, findM d k ks i = some (some j) → ∃ A x B, ks = A ++ x :: B ∧ j = i + A.length ∧ Instr.sameNow d k x = some true ∧ ∀ y ∈ A ++ B, Instr.sameNow d k y = some false
  | [], i, j, h => by simp [findM] at h
  | x :: xs, i, j, h => by
    simp only [findM] at h
    split at h
    · rename_i e
      split at h
      · rename_i hn
        cases h
        exact ⟨[], x, xs, rfl, rfl, e, fun y hy => noneM_all hn y (by simpa using hy)⟩
      · cases h
    · rename_i e
      obtain ⟨A, z, B, rfl, hj, hz, hn⟩ := findM_some h
      refine ⟨x :: A, z, B, rfl, by simp only [List.length_cons]; omega, hz, fun y hy => ?_⟩
      rcases List.mem_cons.1 (by simpa using hy : y ∈ x :: (A ++ B)) with rfl | hy
      · exact e
      · exact hn y hy
    · cases h
theorem findM_none {d : TypeDesc} {k : Value} : ∀ {ks : List Value} {i : Nat}, findM d k ks i = some none → ∀ y ∈ ks, Instr.sameNow d k y = some false
  | [], i, h, y, hy => by cases hy
  | x :: xs, i, h, y, hy => by
    simp only [findM] at h
    split at h
    · split at h <;> cases h
    · rename_i e
      rcases List.mem_cons.1 hy with rfl | hy
      · exact e
      · exact findM_none h y hy
    · cases h
theorem findNow_skip {d : TypeDesc} {k : Value} : ∀ {C D : List MapEntry} {i : Nat}, (∀ y ∈ C, Instr.sameNow d k y.key = some false) → Instr.findNow d k (C ++ D) i = Instr.findNow d k D (i + C.length)
  | [], D, i, _ => by simp
  | c :: C, D, i, h => by
    rw [List.cons_append, Instr.findNow, h c (by simp)]
    simp only
    rw [findNow_skip fun y hy => h y (by simp [hy])]
    congr 1
    simp only [List.length_cons]; omega
theorem findNow_hit {d : TypeDesc} {k : Value} {C D : List MapEntry} {e : MapEntry} (h : ∀ y ∈ C, Instr.sameNow d k y.key = some false) (he : Instr.sameNow d k e.key = some true) : Instr.findNow d k (C ++ e :: D) 0 = some (some (C.length, e.val)) := by
  rw [findNow_skip h, Instr.findNow, he]
  simp
theorem findNow_miss {d : TypeDesc} {k : Value} {C : List MapEntry} (h : ∀ y ∈ C, Instr.sameNow d k y.key = some false) : Instr.findNow d k C 0 = some none := by
  have := findNow_skip (D := []) (i := 0) h
  rw [List.append_nil] at this
  rw [this, Instr.findNow]
/-- Where one element alone has what is asked for: it stands in the other row too, and the rest are the rest. -/
theorem perm_split {l es : List MapEntry} (hp : l.Perm es) {A B : List MapEntry} {e : MapEntry} (hl : l = A ++ e :: B) : ∃ C D, es = C ++ e :: D ∧ (A ++ B).Perm (C ++ D) := by
  have hm : e ∈ es := hp.mem_iff.1 (by rw [hl]; simp)
  obtain ⟨C, D, rfl⟩ := List.append_of_mem hm
  refine ⟨C, D, rfl, ?_⟩
  subst hl
  exact ((List.perm_middle.symm.trans hp).trans List.perm_middle).cons_inv
theorem map_split {α β : Type} {f : α → β} : ∀ {l : List α} {A B : List β} {x : β}, l.map f = A ++ x :: B → ∃ A' e B', l = A' ++ e :: B' ∧ A'.map f = A ∧ f e = x ∧ B'.map f = B := by
  intro l A B x h
  obtain ⟨A', r, rfl, h1, h2⟩ := List.map_eq_append_iff.1 h
  obtain ⟨e, B', rfl, h3, h4⟩ := List.map_eq_cons_iff.1 h2
  exact ⟨A', e, B', rfl, h1, h3, h4⟩
section
variable {P : Program} {N : Nat} {F : Nat → Prop} {g g' : G} {ι : Io} {w0 w : World}
theorem run_checkKey {b : Bool} {kt : TypeId} {d : TypeDesc} {k : Value} (hd : P.underlying kt = some d) (hk : keyOK d k = true) (w : World) : (Instr.checkKey b 10000 kt k).run P w = .ok () w := by
  have hs := keyOK_same hk
  rw [show Instr.checkKey b 10000 kt k = Instr.checkKey b (9999 + 1) kt k from rfl, Instr.checkKey]
  unfold Instr.sameNow at hs
  split at hs
  · simp [run_underlying hd]
  · simp [run_underlying hd]
  · simp [run_underlying hd]
  · cases hs
theorem sameBits_same {d : TypeDesc} {k x : Value} (h : Instr.sameNow d k x = some true) : Instr.sameBits 10000 x k = true := by
  have e := sameNow_eq h
  subst e
  unfold Instr.sameNow at h
  split at h
  · simp [Instr.sameBits]
  · simp [Instr.sameBits, bytes_self]
  · simp [Instr.sameBits]
  · cases h
theorem run_keyStays {d : TypeDesc} {k x : Value} (h : Instr.sameNow d k x = some true) (w : World) : (Instr.keyThatStays x k).run P w = .ok k w := by
  simp [Instr.keyThatStays, sameBits_same h]
theorem run_findKey {kt : TypeId} {d : TypeDesc} {k : Value} {es : List MapEntry} {r : Option (Nat × Value)} (hd : P.underlying kt = some d) (h : Instr.findNow d k es 0 = some r) (w : World) : (Instr.findKey kt k es).run P w = .ok r w := by
  simp [Instr.findKey, run_underlying hd, h]
theorem mapT_some {t et : TypeId} {d : TypeDesc} (h : mapT P t = some (d, et)) : ∃ kt, P.underlying t = some (.map kt et) ∧ P.underlying kt = some d := by
  unfold mapT at h
  split at h
  · rename_i kt et' hu
    split at h
    · rename_i d' hd
      cases h
      exact ⟨kt, hu, hd⟩
    · cases h
  · cases h
theorem run_zeroV {t : TypeId} {z : Value} (h : zeroV P t = some z) (w : World) : (zeroValue t).run P w = .ok z w := by
  unfold zeroV at h
  split at h
  · rename_i i hi
    simp [zeroValue, typeInfo, hi, h]
  · cases h
theorem pair_VR {ok b : Bool} {a : AV} {v : Value} (h : VR ι a v) : VR ι (pairA ok a b) (if ok then .tuple #[v, .bool b] else v) := by
  cases ok with
  | false => exact h
  | true => exact VR_mkTup (vs := [v, .bool b]) (by rw [VRL]; exact ⟨_, _, rfl, h, by rw [VRL]; exact ⟨_, _, rfl, by rw [VR], by rw [VRL]⟩⟩)
/-- A map's block, where it is looked at. -/
theorem is_eq {k b b' m : Nat} (h : (ι k).is b) (h1 : ι k = .at_ b' m) : b' = b := by
  rcases h with e | ⟨m', e⟩
  · rw [h1] at e; cases e
  · rw [h1] at e; cases e; rfl
theorem FOK.readX {F : Nat → Prop} {g g' : G} {k : Nat} {a : AV} (h : FOK F g') (hr : g.readX k = some (a, g')) : FOK F g := by
  rw [G.readX_def] at hr
  unfold G.readXO at hr
  split at hr
  · cases hr
  · split at hr
    · split at hr
      · cases hr; exact ⟨fun k hk => h.1 k (by simp [hk]), h.2.1, h.2.2⟩
      · cases hr; exact h
    · cases hr
theorem lookup_ok {t : TypeId} {x i av : AV} {vx vi : Value} {ok : Bool} (h : evLookup P t x i ok g = some (.val av g')) (hx : VR ι x vx) (hi : VR ι i vi) (hF : FOK F g') (hs : Sat N F g ι w0 w) :
    Fin P N F w0 (Instr.lookup t vx vi ok) av g g' ι w := by
  unfold evLookup at h
  split at h
  · rename_i k key
    rw [VR] at hx
    rw [VR] at hi
    subst hi
    obtain ⟨b, rfl, hk⟩ := hx
    split at h
    · rename_i d et hm
      obtain ⟨kt, hu, hd⟩ := mapT_some hm
      split at h
      · rename_i ks bs vs g1 hok hr


        split at h
        · rename_i j hf
          split at h
          · rename_i a ha
            cases h
            obtain ⟨h1, ⟨b', m, h2, es, clock, l, h3, h4, h5, h6, h7, h8⟩, st, sat, _⟩ := readX_ok hr hF hs
            obtain rfl := is_eq hk h2
            obtain ⟨A, z, B, e1, e2, e3, e4⟩ := findM_some hf
            rw [← h5] at e1
            obtain ⟨A', e, B', e5, e6, e7, e8⟩ := map_split e1
            obtain ⟨C, D, e9, e10⟩ := perm_split h4 e5
            have hC : ∀ y ∈ C, Instr.sameNow d vi y.key = some false := fun y hy => by
              have : y ∈ A' ++ B' := e10.mem_iff.2 (by simp [hy])
              refine e4 _ ?_
              rw [← e6, ← e8, ← List.map_append]
              exact List.mem_map_of_mem this
            have hfn := findNow_hit (D := D) hC (by rw [e7]; exact e3 : Instr.sameNow d vi e.key = some true)
            rw [← e9] at hfn
            rw [getL_eq] at ha
            obtain ⟨v, hv1, hv2⟩ := (VRL_iff.1 h6).2 j a ha
            have hve : v = e.val := by
              rw [e5, List.map_append, List.map_cons, e2, Nat.zero_add, ← e6, List.length_map] at hv1
              rw [List.getElem?_append_right (by simp)] at hv1
              simp at hv1
              exact hv1.symm
            subst hve
            refine ⟨ι, _, w, ?_, pair_VR hv2, st, sat⟩
            simp [Instr.lookup, run_underlying hu, MapKept.run_getObj_map h3, run_checkKey hd hok, run_findKey hd hfn]
          · cases h
        · rename_i hf
          split at h
          · rename_i z hz
            cases h
            obtain ⟨h1, ⟨b', m, h2, es, clock, l, h3, h4, h5, h6, h7, h8⟩, st, sat, _⟩ := readX_ok hr hF hs
            obtain rfl := is_eq hk h2
            have hall := findM_none hf
            have hfn := findNow_miss (d := d) (k := vi) (C := es.toList) fun y hy => hall _ (by rw [← h5]; exact List.mem_map_of_mem (h4.mem_iff.2 hy))
            refine ⟨ι, _, w, ?_, pair_VR (a := .v z) (v := z) (by rw [VR]), st, sat⟩
            simp [Instr.lookup, run_underlying hu, MapKept.run_getObj_map h3, run_checkKey hd hok, run_findKey hd hfn, run_zeroV hz]
          · cases h
        · cases h
      · cases h
    · cases h
  · rename_i key
    rw [VR] at hx
    rw [VR] at hi
    subst hx hi
    exact plain_ok h hs
  · cases h
theorem modify_at {f : MapEntry → MapEntry} : ∀ (C : List MapEntry) (e : MapEntry) (D : List MapEntry), (C ++ e :: D).modify C.length f = C ++ f e :: D
  | [], e, D => rfl
  | c :: C, e, D => by
    show (c :: (C ++ e :: D)).modify (C.length + 1) f = _
    rw [List.modify_succ_cons, modify_at C e D]
    rfl
theorem erase_at : ∀ (C : List MapEntry) (e : MapEntry) (D : List MapEntry), (C ++ e :: D).eraseIdx C.length = C ++ D
  | [], e, D => rfl
  | c :: C, e, D => by
    show (c :: (C ++ e :: D)).eraseIdx (C.length + 1) = _
    rw [List.eraseIdx_cons_succ, erase_at C e D]
    rfl
theorem VRL_set {vs : List AV} {us : List Value} {a : AV} {v : Value} (h : VRL ι vs us) (ha : VR ι a v) (j : Nat) : VRL ι (vs.set j a) (us.set j v) := by
  obtain ⟨h1, h2⟩ := VRL_iff.1 h
  refine VRL_iff.2 ⟨by simp [h1], fun i b hb => ?_⟩
  rw [List.getElem?_set] at hb
  rw [List.getElem?_set]
  split at hb
  · rename_i e
    rw [if_pos e]
    split at hb
    · rename_i hlt
      cases hb
      rw [if_pos (by rw [h1]; exact hlt)]
      exact ⟨v, rfl, ha⟩
    · cases hb
  · rename_i e
    rw [if_neg e]
    exact h2 i b hb
theorem dropAt_some {α : Type} : ∀ {l l' : List α} {k : Nat}, dropAt l k = some l' → l' = l.eraseIdx k
  | [], l', k, h => by simp [dropAt] at h
  | x :: xs, l', 0, h => by simp [dropAt] at h; exact h.symm
  | x :: xs, l', k + 1, h => by
    simp only [dropAt] at h
    split at h
    · rename_i ys hy
      cases h
      rw [dropAt_some hy]
      rfl
    · cases h
theorem VRL_erase : ∀ {vs : List AV} {us : List Value}, VRL ι vs us → ∀ j, VRL ι (vs.eraseIdx j) (us.eraseIdx j)
  | [], us, h, j => by rw [VRL] at h; subst h; simp; rw [VRL]
  | a :: vs, us, h, j => by
    rw [VRL] at h
    obtain ⟨v, us, rfl, h1, h2⟩ := h
    cases j with
    | zero => exact h2
    | succ j =>
      rw [List.eraseIdx_cons_succ, List.eraseIdx_cons_succ, VRL]
      exact ⟨_, _, rfl, h1, VRL_erase h2 j⟩
theorem erase_map {α β : Type} (f : α → β) (l : List α) (j : Nat) : (l.eraseIdx j).map f = (l.map f).eraseIdx j := ChangeMaps.map_eraseIdx f l j
/-- What is at the place of a key: the rows, parted. -/
theorem at_key {ks : List Value} {d : TypeDesc} {key : Value} {j : Nat} {l es : List MapEntry} (hf : findM d key ks 0 = some (some j)) (h5 : l.map (·.key) = ks) (h4 : l.Perm es) :
    ∃ A B C D e, l = A ++ e :: B ∧ es = C ++ e :: D ∧ (A ++ B).Perm (C ++ D) ∧ j = A.length ∧ key = e.key ∧ Instr.sameNow d key e.key = some true ∧ Instr.findNow d key es 0 = some (some (C.length, e.val)) := by
  obtain ⟨A, z, B, e1, e2, e3, e4⟩ := findM_some hf
  rw [← h5] at e1
  obtain ⟨A', e, B', e5, e6, e7, e8⟩ := map_split e1
  obtain ⟨C, D, e9, e10⟩ := perm_split h4 e5
  have hC : ∀ y ∈ C, Instr.sameNow d key y.key = some false := fun y hy => by
    have : y ∈ A' ++ B' := e10.mem_iff.2 (by simp [hy])
    refine e4 _ ?_
    rw [← e6, ← e8, ← List.map_append]
    exact List.mem_map_of_mem this
  have h7 : Instr.sameNow d key e.key = some true := by rw [e7]; exact e3
  have hfn := findNow_hit (D := D) hC h7
  rw [← e9] at hfn
  exact ⟨A', B', C, D, e, e5, e9, e10, by rw [e2, Nat.zero_add, ← e6, List.length_map], sameNow_eq h7, h7, hfn⟩
theorem no_key {ks : List Value} {d : TypeDesc} {key : Value} {l es : List MapEntry} (hf : findM d key ks 0 = some none) (h5 : l.map (·.key) = ks) (h4 : l.Perm es) : Instr.findNow d key es 0 = some none := by
  have hall := findM_none hf
  exact findNow_miss fun y hy => hall _ (by rw [← h5]; exact List.mem_map_of_mem (h4.mem_iff.2 hy))
theorem writeM_ok {k b m : Nat} {a a0 : AV} {o : Obj} {g1 : G} (hw : g1.write k (some (.odd a)) = some g') (hF : FOK F g') (hs : Sat N F g1 ι w0 w) (h0 : g1.H.get k = some (.odd a0)) (hk : ι k = .at_ b m) (hlt : b < w.heap.size)
    (hb : ∀ w' : World, w'.heap[b]? = some o → BS ι w' b a) : Step g1 g' ι ι w (w.putObj b o) ∧ Sat N F g' ι w0 (w.putObj b o) := by
  obtain ⟨s1, s2, _⟩ := write_ok hw hF hs h0 hk (show BX ι (.odd a) (w.putObj b o) b m from hb _ (World.putObj_heap_same hlt)) (by simp) rfl rfl rfl (fun d hd => World.putObj_heap_other hd)
  exact ⟨s1, s2⟩
theorem lt_of_heap {b : Nat} {o : Obj} (h : w.heap[b]? = some o) : b < w.heap.size := (Array.getElem?_eq_some_iff.1 h).1
theorem mapUpdate_ok {t : TypeId} {x i a av : AV} {vx vi va : Value} (h : evMapUpdate P t x i a g = some (.val av g')) (hx : VR ι x vx) (hi : VR ι i vi) (ha : VR ι a va) (hF : FOK F g') (hs : Sat N F g ι w0 w) :
    ∃ w', (Instr.mapUpdate t vx vi va).run P w = .ok () w' ∧ av = .v undef ∧ Step g g' ι ι w w' ∧ Sat N F g' ι w0 w' := by
  unfold evMapUpdate at h
  split at h
  · rename_i k key
    rw [VR] at hx
    rw [VR] at hi
    subst hi
    obtain ⟨b, rfl, hk⟩ := hx
    split at h
    · rename_i d et hm
      obtain ⟨kt, hu, hd⟩ := mapT_some hm
      split at h
      · rename_i ks bs vs g1 hok hr
        split at h
        · rename_i j hf
          split at h
          · rename_i vs' hset
            split at h
            · rename_i g2 hw
              cases h
              have hF1 := hF.write hw
              obtain ⟨h1, ⟨b', m, h2, es, clock, l, h3, h4, h5, h6, h7, h8⟩, st, sat, hH, _⟩ := readX_ok hr hF1 hs
              obtain rfl := is_eq hk h2
              obtain ⟨A, B, C, D, e, e1, e2, e3, e4, e5, e6, e7⟩ := at_key hf h5 h4
              obtain ⟨_, hvs⟩ := setL_some _ _ _ _ hset
              let f : MapEntry → MapEntry := fun e => { e with key := vi, val := va }
              have hmod : (es.modify C.length f).toList = C ++ f e :: D := by rw [Array.toList_modify, e2, modify_at]
              obtain ⟨s1, s2⟩ := writeM_ok (o := .map (es.modify C.length f) clock) hw hF sat (by rw [hH]; exact h1) h2 (lt_of_heap h3) fun w' hw' => by
                refine ⟨_, _, A ++ f e :: B, hw', ?_, ?_, ?_, fun bl c hb => ?_, ?_⟩
                · rw [hmod]
                  exact (List.perm_middle.trans (e3.cons _)).trans List.perm_middle.symm
                · rw [← h5, e1, List.map_append, List.map_append, List.map_cons, List.map_cons]
                  show _ ++ vi :: _ = _
                  rw [e5]
                · have := VRL_set h6 ha j
                  rw [← hvs] at this
                  rw [e1, e4] at this
                  simp only [List.map_append, List.map_cons] at this ⊢
                  rw [List.set_append_right _ _ (by simp)] at this
                  simpa using this
                · obtain ⟨q1, q2⟩ := h7 bl c hb
                  refine ⟨?_, q2⟩
                  rw [← q1, e1, List.map_append, List.map_append, List.map_cons, List.map_cons]
                · rw [e1] at h8
                  refine ⟨by simpa using h8.1, fun x hx => ?_⟩
                  rcases List.mem_append.1 hx with hx | hx
                  · exact h8.2 x (by simp [hx])
                  · rcases List.mem_cons.1 hx with rfl | hx
                    · exact h8.2 e (by simp)
                    · exact h8.2 x (by simp [hx])
              refine ⟨_, ?_, rfl, st.trans s1, s2⟩
              have hget : (es[C.length]?).map (·.key) = some e.key := by
                rw [← Array.getElem?_toList, e2]; simp
              have hky := run_keyStays (P := P) e6 w
              simp [Instr.mapUpdate, run_underlying hu, MapKept.run_getObj_map h3, run_checkKey hd hok, run_findKey hd e7, hget, hky, MapKept.run_setObj_map _ h3]
              rfl
            · cases h
          · cases h
        · rename_i hf
          have fin : ∀ bs' vs' ks', appL ks [vi] = some ks' → appL vs [a] = some vs' → (∀ (clock : Nat) (l : List MapEntry), (∀ bl c, bs = some (bl, c) → l.map (·.born) = bl ∧ clock = c) →
              ∀ bl c, bs' = some (bl, c) → (l ++ [{ key := vi, val := va, born := clock }] : List MapEntry).map (·.born) = bl ∧ clock + 1 = c) → ∀ g2, g1.write k (some (.odd (.mp ks' bs' vs'))) = some g2 → g2 = g' → av = .v undef →
              ∃ w', (Instr.mapUpdate t (.map (some b)) vi va).run P w = .ok () w' ∧ av = .v undef ∧ Step g g' ι ι w w' ∧ Sat N F g' ι w0 w' := by
            rintro bs' vs' ks' hk1 hv1 hb1 g2 hw rfl hav
            have hF1 := hF.write hw
            obtain ⟨h1, ⟨b', m, h2, es, clock, l, h3, h4, h5, h6, h7, h8⟩, st, sat, hH, _⟩ := readX_ok hr hF1 hs
            obtain rfl := is_eq hk h2
            have hfn := no_key hf h5 h4
            obtain ⟨s1, s2⟩ := writeM_ok (o := .map (es.push { key := vi, val := va, born := clock }) (clock + 1)) hw hF sat (by rw [hH]; exact h1) h2 (lt_of_heap h3) fun w' hw' => by
              refine ⟨_, _, l ++ [{ key := vi, val := va, born := clock }], hw', ?_, ?_, ?_, hb1 clock l h7, ?_⟩
              · rw [Array.toList_push]
                exact h4.append_right _
              · rw [appL_some _ _ _ hk1, List.map_append, h5]
                rfl
              · rw [appL_some _ _ _ hv1, List.map_append]
                exact VRL_app h6 (by rw [List.map_cons, VRL]; exact ⟨_, _, rfl, ha, by rw [VRL]; rfl⟩)
              · refine ⟨?_, fun x hx => ?_⟩
                · rw [List.map_append, List.nodup_append]
                  refine ⟨h8.1, by simp, fun a ha b hb => ?_⟩
                  obtain ⟨x, hx, rfl⟩ := List.mem_map.1 ha
                  have := h8.2 x hx
                  simp at hb
                  omega
                · rcases List.mem_append.1 hx with hx | hx
                  · have := h8.2 x hx; omega
                  · rw [List.mem_singleton.1 hx]; exact Nat.lt_succ_self _
            refine ⟨_, ?_, hav, st.trans s1, s2⟩
            simp [Instr.mapUpdate, run_underlying hu, MapKept.run_getObj_map h3, run_checkKey hd hok, run_findKey hd hfn, MapKept.run_setObj_map _ h3]
            rfl
          split at h
          · rename_i bl c
            split at h
            · rename_i bl' ks' vs' hbl hks hvs
              rw [forceNat_eq] at h
              split at h
              · rename_i g2 hw
                cases h
                refine fin _ _ _ hks hvs (fun clock l h7 bl2 c2 e => ?_) _ hw rfl rfl
                obtain ⟨q1, q2⟩ := h7 bl c rfl
                cases e
                rw [appL_some _ _ _ hbl, List.map_append, q1, ← q2]
                exact ⟨rfl, rfl⟩
              · cases h
            · cases h
          · split at h
            · rename_i ks' vs' hks hvs
              split at h
              · rename_i g2 hw
                cases h
                exact fin _ _ _ hks hvs (fun clock l h7 bl2 c2 e => by cases e) _ hw rfl rfl
              · cases h
            · cases h
        · cases h
      · cases h
    · cases h
  · cases h
theorem dropO_some {bs bs' : Option (List Nat × Nat)} {j : Nat} (h : dropO bs j = some bs') : ∀ bl' c, bs' = some (bl', c) → ∃ bl, bs = some (bl, c) ∧ bl' = bl.eraseIdx j := by
  intro bl' c e
  subst e
  unfold dropO at h
  split at h
  · cases h
  · rename_i bl c2
    split at h
    · rename_i bl2 hd
      cases h
      exact ⟨bl, rfl, dropAt_some hd⟩
    · cases h
theorem erase_len {α : Type} (A : List α) (e : α) (B : List α) : (A ++ e :: B).eraseIdx A.length = A ++ B := by
  rw [List.eraseIdx_append_of_length_le (Nat.le_refl _)]
  simp
theorem delete_ok {ts : Array TypeId} {t ty : TypeId} {x i av : AV} {vx vi : Value} (h : evDelete P t x i g = some (.val av g')) (h0 : ts[0]? = some t) (hx : VR ι x vx) (hi : VR ι i vi) (hF : FOK F g') (hs : Sat N F g ι w0 w) :
    Fin P N F w0 (Builtin.delete_ ts ty #[vx, vi]) av g g' ι w := by
  unfold evDelete at h
  split at h
  · rename_i k key
    rw [VR] at hx
    rw [VR] at hi
    subst hi
    obtain ⟨b, rfl, hk⟩ := hx
    split at h
    · rename_i d et hm
      obtain ⟨kt, hu, hd⟩ := mapT_some hm
      split at h
      · rename_i ks bs vs g1 hok hr
        split at h
        · rename_i j hf
          split at h
          · rename_i ks' bs' vs' hks hbs hvs
            split at h
            · rename_i g2 hw
              cases h
              have hF1 := hF.write hw
              obtain ⟨h1, ⟨b', m, h2, es, clock, l, h3, h4, h5, h6, h7, h8⟩, st, sat, hH, _⟩ := readX_ok hr hF1 hs
              obtain rfl := is_eq hk h2
              obtain ⟨A, B, C, D, e, e1, e2, e3, e4, e5, e6, e7⟩ := at_key hf h5 h4
              have her : (es.eraseIdxIfInBounds C.length).toList = C ++ D := by
                rw [Array.toList_eraseIdxIfInBounds, e2, erase_at]
              obtain ⟨s1, s2⟩ := writeM_ok (o := .map (es.eraseIdxIfInBounds C.length) clock) hw hF sat (by rw [hH]; exact h1) h2 (lt_of_heap h3) fun w' hw' => by
                refine ⟨_, _, A ++ B, hw', by rw [her]; exact e3, ?_, ?_, fun bl c hb => ?_, ?_⟩
                · rw [dropAt_some hks, ← h5, ← erase_map, e1, e4, erase_len]
                · rw [dropAt_some hvs]
                  have := VRL_erase h6 j
                  rw [← erase_map, e1, e4, erase_len] at this
                  rw [e4]
                  exact this
                · obtain ⟨bl0, hb0, rfl⟩ := dropO_some hbs bl c hb
                  obtain ⟨q1, q2⟩ := h7 bl0 c hb0
                  refine ⟨?_, q2⟩
                  rw [← q1, ← erase_map, e1, e4, erase_len]
                · have hsub : (A ++ B).Sublist l := by rw [e1]; exact List.Sublist.append (List.Sublist.refl A) (List.sublist_cons_self e B)
                  exact ⟨h8.1.sublist (hsub.map _), fun x hx => h8.2 x (hsub.subset hx)⟩
              refine ⟨ι, _, _, ?_, (by rw [VR]), st.trans s1, s2⟩
              simp [Builtin.delete_, h0, run_underlying hu, MapKept.run_getObj_map h3, run_checkKey hd hok, run_findKey hd e7, MapKept.run_setObj_map _ h3]
              rfl
            · cases h
          · cases h
        · rename_i hf
          cases h
          obtain ⟨h1, ⟨b', m, h2, es, clock, l, h3, h4, h5, h6, h7, h8⟩, st, sat, hH, _⟩ := readX_ok hr hF hs
          obtain rfl := is_eq hk h2
          have hfn := no_key hf h5 h4
          have hsame : w.putObj b' (.map es clock) = w := by
            unfold World.putObj
            have hlt := lt_of_heap h3
            have : w.heap.setIfInBounds b' (.map es clock) = w.heap := by
              apply Array.ext_getElem?
              intro i
              rw [Array.getElem?_setIfInBounds]
              split
              · rename_i e; subst e; exact h3.symm
              · rfl
            rw [this]
          refine ⟨ι, .tuple #[], w, ?_, by rw [VR], st, sat⟩
          simp [Builtin.delete_, h0, run_underlying hu, MapKept.run_getObj_map h3, run_checkKey hd hok, run_findKey hd hfn, MapKept.run_setObj_map _ h3]
          exact hsame
        · cases h
      · cases h
    · cases h
  · cases h
theorem makeMap_ok {t : TypeId} {av : AV} (h : evMakeMap none g = some (.val av g')) (hN : g'.n ≤ N) (hF : FOK F g') (hs : Sat N F g ι w0 w) : Fin P N F w0 (Instr.makeMap t none) av g g' ι w := by
  unfold evMakeMap at h
  split at h
  · split at h
    · rename_i k g1 hn
      cases h
      obtain ⟨ι', st, sat, hk, hle⟩ := new_okX (w' := w.alloc (.map #[] 0)) (m := 0) hn hN hF hs (show BX ι (.odd (.mp [] (some ([], 0)) [])) (w.alloc (.map #[] 0)) w.heap.size 0 from ⟨#[], 0, [], heap_alloc_at w _, .refl _, rfl, by rw [List.map_nil, VRL], (fun bl c e => by cases e; exact ⟨rfl, rfl⟩), List.nodup_nil, (fun x hx => by cases hx)⟩)
        (show (w.heap.push _).size = _ by simp) rfl rfl rfl (fun d hd => heap_alloc_lt w _ hd)
      refine ⟨ι', .map (some w.heap.size), _, ?_, by rw [VR]; exact ⟨_, rfl, .inr ⟨_, hk⟩⟩, st, sat⟩
      simp [Instr.makeMap]
    · cases h
  · cases h
theorem range_ok {t : TypeId} {x av : AV} {vx : Value} (h : evRangeM P t x g = some (.val av g')) (hx : VR ι x vx) (hN : g'.n ≤ N) (hF : FOK F g') (hs : Sat N F g ι w0 w) : Fin P N F w0 (Instr.range t vx) av g g' ι w := by
  unfold evRangeM at h
  split at h
  · rename_i kt et k hu
    rw [VR] at hx
    obtain ⟨b, rfl, hk⟩ := hx
    split at h
    · rename_i ks bl c vs g1 hr
      split at h
      · rename_i r g2 hn
        cases h
        have hF1 := hF.new hn
        obtain ⟨h1, ⟨b', m, h2, es, clock, l, h3, h4, h5, h6, h7, h8⟩, st, sat, hH, _⟩ := readX_ok hr hF1 hs
        obtain rfl := is_eq hk h2
        obtain ⟨_, rfl⟩ := h7 _ _ rfl
        obtain ⟨ι', st2, sat2, hk2, hle⟩ := new_okX (w' := w.alloc (.mapIter (some b') clock #[] clock)) (m := 0) hn hN hF sat (show BX ι (.odd (.mi k clock [] clock)) (w.alloc (.mapIter (some b') clock #[] clock)) w.heap.size 0 from ⟨b', heap_alloc_at w _, hk⟩)
          (show (w.heap.push _).size = _ by simp) rfl rfl rfl (fun d hd => heap_alloc_lt w _ hd)
        exact ⟨ι', .pointer (some ⟨w.heap.size, 0, none⟩), _, run_range_map w t kt et b' es clock hu h3, by rw [VR]; exact ⟨_, rfl, .inr ⟨_, hk2⟩⟩, st.trans st2, sat2⟩
      · cases h
    · cases h
  · rename_i kt et hu
    rw [VR] at hx
    subst hx
    split at h
    · rename_i r g2 hn
      cases h
      obtain ⟨ι', st2, sat2, hk2, hle⟩ := new_okX (w' := w.alloc (.mapIter none 0 #[] 0)) (m := 0) hn hN hF hs (show BX ι (.odd .m0) (w.alloc (.mapIter none 0 #[] 0)) w.heap.size 0 from ⟨_, _, _, heap_alloc_at w _⟩)
        (show (w.heap.push _).size = _ by simp) rfl rfl rfl (fun d hd => heap_alloc_lt w _ hd)
      exact ⟨ι', .pointer (some ⟨w.heap.size, 0, none⟩), _, run_range_nilMap w t kt et hu, by rw [VR]; exact ⟨_, rfl, .inr ⟨_, hk2⟩⟩, st2, sat2⟩
    · cases h
  · cases h
theorem lenMap_ok {ts : Array TypeId} {ty : TypeId} {k : Nat} {kt et : TypeId} {ks : List Value} {bs : Option (List Nat × Nat)} {vs : List AV} {v : Value} (hu : (ts[0]?).bind P.underlying = some (.map kt et)) (hr : g.readX k = some (.mp ks bs vs, g')) (hx : VR ι (.mr k) v) (hF : FOK F g') (hs : Sat N F g ι w0 w) :
    Fin P N F w0 (Builtin.len_ ts ty #[v]) (.v (goInt ks.length)) g g' ι w := by
  rw [VR] at hx
  obtain ⟨b, rfl, hk⟩ := hx
  obtain ⟨h1, ⟨b', m, h2, es, clock, l, h3, h4, h5, h6, h7, h8⟩, st, sat, hH, _⟩ := readX_ok hr hF hs
  obtain rfl := is_eq hk h2
  obtain ⟨t, ht, hu⟩ := Option.bind_eq_some_iff.1 hu
  have hlen : es.size = ks.length := by rw [← h5, List.length_map, h4.length_eq, Array.length_toList]
  refine ⟨ι, goInt ks.length, w, ?_, by rw [VR], st, sat⟩
  simp [Builtin.len_, ht, run_underlying hu, MapKept.run_getObj_map h3, hlen]
theorem memS_iff {k : Nat} : ∀ {l : List Nat}, memN k l = true ↔ k ∈ l
  | [] => by simp [memN]
  | x :: xs => by
    simp only [memN]
    split
    · rename_i h; simp [beq_tt h]
    · rename_i h
      have : k ≠ x := fun e => by rw [e, Nat.beq_refl] at h; cases h
      rw [memS_iff]; simp [this]
theorem leftN_mem {seen : List Nat} : ∀ {bl : List Nat} {i j : Nat}, j ∈ leftN seen bl i ↔ ∃ n b, bl[n]? = some b ∧ j = i + n ∧ b ∉ seen
  | [], i, j => by simp [leftN]
  | b :: bl, i, j => by
    simp only [leftN]
    have key : (∃ n c, (b :: bl)[n]? = some c ∧ j = i + n ∧ c ∉ seen) ↔ (j = i ∧ b ∉ seen) ∨ ∃ n c, bl[n]? = some c ∧ j = (i + 1) + n ∧ c ∉ seen := by
      constructor
      · rintro ⟨n, c, h1, h2, h3⟩
        cases n with
        | zero => simp at h1; subst h1; exact .inl ⟨by omega, h3⟩
        | succ n => exact .inr ⟨n, c, by simpa using h1, by omega, h3⟩
      · rintro (⟨h1, h2⟩ | ⟨n, c, h1, h2, h3⟩)
        · exact ⟨0, b, by simp, by omega, h2⟩
        · exact ⟨n + 1, c, by simpa using h1, by omega, h3⟩
    rw [key]
    split
    · rename_i h
      rw [leftN_mem]
      constructor
      · exact .inr
      · rintro (⟨_, h2⟩ | h2)
        · exact absurd (memS_iff.1 h) h2
        · exact h2
    · rename_i h
      rw [List.mem_cons, leftN_mem]
      have hn : b ∉ seen := fun e => by rw [memS_iff.2 e] at h; cases h
      simp [hn]
theorem oldN_all {since : Nat} : ∀ {bl : List Nat}, oldN since bl = true → ∀ b ∈ bl, b < since
  | [], _, b, hb => by cases hb
  | x :: xs, h, b, hb => by
    simp only [oldN] at h
    split at h
    · rename_i hx
      rcases List.mem_cons.1 hb with rfl | hb
      · simpa [Nat.blt_eq] using hx
      · exact oldN_all h b hb
    · cases h
theorem many_mem {r k since : Nat} {seen : List Nat} {ks : List Value} {bl : List Nat} {c : Nat} {vs : List AV} : ∀ {js : List Nat} {rs : List (AV × G)}, evNexts.many r k since seen ks bl c vs g js = some rs → ∀ j ∈ js, ∃ x ∈ rs, evStepAt r k since seen ks bl c vs j g = some x
  | [], rs, h, j, hj => by cases hj
  | i :: js, rs, h, j, hj => by
    simp only [evNexts.many] at h
    split at h
    · rename_i x xs h1 h2
      cases h
      rcases List.mem_cons.1 hj with rfl | hj
      · exact ⟨x, by simp, h1⟩
      · obtain ⟨y, hy, e⟩ := many_mem h2 j hj
        exact ⟨y, by simp [hy], e⟩
    · cases h
/-- An iterator and its map, where a step is to be taken. -/
theorem next_at {b rr k since last c : Nat} {seen bl js : List Nat} {ks : List Value} {vs : List AV} {g1 g2 : G} (hk : (ι rr).is b) (hr : g.readX rr = some (.mi k since seen last, g1)) (hr2 : g1.readX k = some (.mp ks (some (bl, c)) vs, g2)) (hst : stepsM since last seen bl = some js)
    (hF1 : FOK F g1) (hF2 : FOK F g2) (hs : Sat N F g ι w0 w) :
    ∃ (b' bm : Nat) (es : Array MapEntry) (clock : Nat) (l : List MapEntry), w.heap[b]? = some (.mapIter (some bm) since seen.toArray last) ∧ w.heap[bm]? = some (.map es clock) ∧ l.Perm es.toList ∧ l.map (·.key) = ks ∧ VRL ι vs (l.map (·.val)) ∧ (l.map (·.born) = bl ∧ clock = c) ∧
      Step g g2 ι ι w w ∧ Sat N F g2 ι w0 w ∧ (g2.H.get rr = some (.odd (.mi k since seen last)) ∧ (∃ m, ι rr = .at_ b m) ∧ (ι k).is bm) ∧ (∀ e ∈ (leftOf es seen.toArray).toList, ∃ j, j ∈ js ∧ l[j]? = some e) ∧ (∀ j ∈ js, (leftOf es seen.toArray).size ≠ 0) ∧ (∀ x ∈ es.toList, x.born < since) ∧ since ≤ last := by
  obtain ⟨h1, ⟨b', m, h2, bm, h3, h4⟩, st, sat, hH, _⟩ := readX_ok hr hF1 hs
  obtain rfl := is_eq hk h2
  obtain ⟨q1, ⟨b2, m2, q2, es, clock, l, q3, q4, q5, q6, q7, q8s⟩, st2, sat2, hH2, _⟩ := readX_ok hr2 hF2 sat
  obtain rfl := is_eq h4 q2
  have q8 := q7 _ _ rfl
  unfold stepsM at hst
  split at hst
  · rename_i ho hle
    cases hst
    refine ⟨b', b2, es, clock, l, h3, q3, q4, q5, q6, q8, st.trans st2, sat2, ⟨by rw [hH2, hH]; exact h1, ⟨m, h2⟩, h4⟩, fun e he => ?_, fun j hj e0 => ?_, fun x hx => ?_, Nat.le_of_ble_eq_true hle⟩
    · unfold leftOf at he
      simp at he
      obtain ⟨j, hj⟩ := List.getElem?_of_mem (q4.mem_iff.2 (by simpa using he.1))
      refine ⟨j, leftN_mem.2 ⟨j, e.born, ?_, by omega, by simpa using he.2⟩, hj⟩
      rw [← q8.1, List.getElem?_map, hj]
      rfl
    · obtain ⟨n, b, hn1, hn2, hn3⟩ := leftN_mem.1 hj
      rw [← q8.1, List.getElem?_map] at hn1
      obtain ⟨e, he1, he2⟩ := Option.map_eq_some_iff.1 hn1
      have hm : e ∈ leftOf es seen.toArray := by
        unfold leftOf
        rw [Array.mem_filter]
        exact ⟨by have := q4.mem_iff.1 (List.mem_of_getElem? he1); simpa using this, by simp [he2, hn3]⟩
      have := Array.size_pos_of_mem hm
      omega
    · have := oldN_all ho x.born (by rw [← q8.1]; exact List.mem_map_of_mem (q4.mem_iff.2 hx))
      exact this
  · cases hst
/-- Whichever step is taken: it is among those. -/
theorem nexts_ok {x : AV} {v : Value} {rs : List (AV × G)} {ty : TypeId} (h : evNexts x g = some rs) (hx : VR ι x v) (hF : ∀ r ∈ rs, FOK F r.2) (hs : Sat N F g ι w0 w) :
    ∃ r ∈ rs, Fin P N F w0 (Instr.next v false ty) r.1 g r.2 ι w := by
  unfold evNexts at h
  split at h
  · rename_i rr
    rw [VR] at hx
    obtain ⟨b, rfl, hk⟩ := hx
    split at h
    · rename_i g1 hr
      cases h
      refine ⟨_, List.mem_singleton.2 rfl, ?_⟩
      obtain ⟨h1, ⟨b', m, h2, s, q, l, h3⟩, st, sat, _⟩ := readX_ok hr (hF _ (List.mem_singleton.2 rfl)) hs
      obtain rfl := is_eq hk h2
      refine ⟨ι, .tuple #[.bool false], w, ?_, by rw [VR], st, sat⟩
      simp only [Instr.next, getObj, Sem.run_bind, Sem.run, h3, Result.andThen]
      rfl
    · rename_i k since seen last g1 hr
      split at h
      · rename_i ks bl c vs g2 hr2
        split at h
        · rename_i hst
          cases h
          have hF2 := hF _ (List.mem_singleton.2 rfl)
          have hF1 : FOK F g1 := hF2.readX hr2
          obtain ⟨b', bm, es, clock, l, j3, q3, q4, q5, q6, q7, st, sat, hH, js, _, hold, hsc⟩ := next_at hk hr hr2 hst hF1 hF2 hs
          rcases run_next_at (P := P) w ty b bm since last seen.toArray es clock j3 q3 hold hsc with ⟨e0, hrun⟩ | ⟨e, he, w1, hw1, hrun⟩
          · exact ⟨_, List.mem_singleton.2 rfl, ι, _, w, hrun, by rw [VR], st, sat⟩
          · obtain ⟨j, hj, _⟩ := js e he
            cases hj
        · rename_i hne hst
          have hF2 : ∀ j x, evStepAt rr k since seen ks bl c vs j g2 = some x → FOK F x.2 → FOK F g2 := by
            intro j x hx hFx
            unfold evStepAt at hx
            repeat' split at hx
            all_goals first
              | (cases hx; done)
              | (rename_i hw; cases hx; exact hFx.write hw)
          rename_i js0
          obtain ⟨j0, hj0⟩ : ∃ j0, j0 ∈ js0 := List.exists_mem_of_ne_nil _ (fun e => hne e)
          obtain ⟨x0, hx0, hs0⟩ := many_mem h j0 hj0
          have hFg2 := hF2 j0 x0 hs0 (hF x0 hx0)
          have hF1 : FOK F g1 := hFg2.readX hr2
          obtain ⟨b', bm, es, clock, l, j3, q3, q4, q5, q6, q7, st, sat, ⟨p1, ⟨pm, p2⟩, p3⟩, js, jne, hold, hsc⟩ := next_at hk hr hr2 hst hF1 hFg2 hs
          rcases run_next_at (P := P) w ty b bm since last seen.toArray es clock j3 q3 hold hsc with ⟨e0, hrun⟩ | ⟨e, he, w1, hw1, hrun⟩
          · exact absurd e0 (jne j0 hj0)
          · obtain ⟨j, hj, hlj⟩ := js e he
            obtain ⟨r, hr1, hr2⟩ := many_mem h j hj
            refine ⟨r, hr1, ?_⟩
            have hFr := hF r hr1
            unfold evStepAt at hr2
            split at hr2
            · rename_i key bb a e1 e2 e3
              rw [getL_eq] at e1 e2 e3
              rw [← q5, List.getElem?_map, hlj] at e1
              rw [← q7.1, List.getElem?_map, hlj] at e2
              cases e1
              cases e2
              obtain ⟨v, hv1, hv2⟩ := (VRL_iff.1 q6).2 j a e3
              rw [List.getElem?_map, hlj] at hv1
              cases hv1
              split at hr2
              · rename_i seen' hap
                split at hr2
                · rename_i g3 hw
                  cases hr2
                  have hseen : seen' = seen ++ [e.born] := appL_some _ _ _ hap
                  have hlt : b < w.heap.size := lt_of_heap j3
                  obtain ⟨s1, s2, _⟩ := write_ok (w' := ChangeMaps.setBlock w1 b (.mapIter (some bm) since (seen.toArray.push e.born) clock)) hw hFr sat p1 p2 (show BX ι (.odd (.mi k since seen' c)) _ b pm from ⟨bm, by
                      rcases hw1 with rfl | rfl
                      · simp only [ChangeMaps.setBlock]
                        rw [Array.getElem?_setIfInBounds_self_of_lt hlt, hseen, ← q7.2]
                        simp
                      · simp only [ChangeMaps.setBlock]
                        rw [Array.getElem?_setIfInBounds_self_of_lt (show b < w.drew.heap.size from hlt), hseen, ← q7.2]
                        simp, p3⟩)
                    (by rcases hw1 with rfl | rfl <;> exact Array.size_setIfInBounds) (by rcases hw1 with rfl | rfl <;> rfl) (by rcases hw1 with rfl | rfl <;> rfl) (by rcases hw1 with rfl | rfl <;> rfl)
                    (fun d hd => by rcases hw1 with rfl | rfl <;> exact Array.getElem?_setIfInBounds_ne (Ne.symm hd))
                  exact ⟨ι, _, _, hrun, VR_mkTup (vs := [.bool true, e.key, e.val]) (by
                    rw [VRL]; refine ⟨_, _, rfl, by rw [VR], ?_⟩
                    rw [VRL]; refine ⟨_, _, rfl, by rw [VR], ?_⟩
                    rw [VRL]; exact ⟨_, _, rfl, hv2, by rw [VRL]⟩), st.trans s1, s2⟩
                · cases hr2
              · cases hr2
            · cases hr2
        · cases h
      · cases h
    · cases h
  · cases h
theorem next_ok {x av : AV} {v : Value} {ty : TypeId} (h : evNext x g = some (.val av g')) (hx : VR ι x v) (hF : FOK F g') (hs : Sat N F g ι w0 w) : Fin P N F w0 (Instr.next v false ty) av g g' ι w := by
  unfold evNext at h
  split at h
  · rename_i a g1 hn
    cases h
    obtain ⟨r, hr, hfin⟩ := nexts_ok (P := P) (ty := ty) hn hx (fun r hr => by rw [List.mem_singleton.1 hr]; exact hF) hs
    rw [List.mem_singleton.1 hr] at hfin
    exact hfin
  · cases h
theorem noDupS : ∀ {l : List Nat}, noDup l = true → l.Nodup
  | [], _ => .nil
  | x :: xs, h => by
    simp only [noDup] at h
    split at h
    · cases h
    · rename_i hm
      exact List.nodup_cons.2 ⟨fun e => (by rw [memS_iff.2 e] at hm; cases hm), noDupS h⟩
theorem lastL_some {α : Type} : ∀ {l : List α} {x : α}, lastL l = some x → ∃ l', l = l' ++ [x]
  | [], x, h => by simp [lastL] at h
  | [y], x, h => by simp [lastL] at h; exact ⟨[], by rw [h]; rfl⟩
  | y :: z :: l, x, h => by
    obtain ⟨l', e⟩ := lastL_some (l := z :: l) (by simpa [lastL] using h)
    exact ⟨y :: l', by rw [e]; rfl⟩
theorem findN_some {b : Nat} : ∀ {l : List Nat} {i j : Nat}, findN b l i = some j → ∃ n, j = i + n ∧ l[n]? = some b
  | [], i, j, h => by simp [findN] at h
  | x :: xs, i, j, h => by
    simp only [findN] at h
    split at h
    · rename_i e; cases h; exact ⟨0, rfl, by simp [beq_tt e]⟩
    · obtain ⟨n, rfl, e⟩ := findN_some h
      exact ⟨n + 1, by omega, by simpa using e⟩
theorem entry_ok {x av : AV} {v : Value} (h : evEntry x g = some (.val av g')) (hx : VR ι x v) (hF : FOK F g') (hs : Sat N F g ι w0 w) : Fin P N F w0 (Instr.entry v) av g g' ι w := by
  unfold evEntry at h
  split at h
  · rename_i rr
    rw [VR] at hx
    obtain ⟨b, rfl, hk⟩ := hx
    split at h
    · rename_i k since seen last g1 hr
      split at h
      · rename_i ks bl c vs g2 b2 hr2 hlast
        split at h
        · rename_i j hf hc hnd
          split at h
          · rename_i key a hk1 hv1
            cases h
            obtain ⟨h1, ⟨b', m, h2, bm, h3, h4⟩, st, sat, hH, _⟩ := readX_ok hr (hF.readX hr2) hs
            obtain rfl := is_eq hk h2
            obtain ⟨q1, ⟨b2, m2, q2, es, clock, l, q3, q4, q5, q6, q7, q8s⟩, st2, sat2, hH2, _⟩ := readX_ok hr2 hF sat
            obtain rfl := is_eq h4 q2
            obtain ⟨q8, q9⟩ := q7 _ _ rfl
            obtain ⟨seen0, rfl⟩ := lastL_some hlast
            obtain ⟨n, rfl, hn⟩ := findN_some hf
            rw [Nat.zero_add] at hk1 hv1
            rw [getL_eq] at hk1 hv1
            rw [← q8, List.getElem?_map] at hn
            obtain ⟨e, he1, he2⟩ := Option.map_eq_some_iff.1 hn
            rw [← q5, List.getElem?_map, he1] at hk1
            cases hk1
            obtain ⟨v, hv2, hv3⟩ := (VRL_iff.1 q6).2 n a hv1
            rw [List.getElem?_map, he1] at hv2
            cases hv2
            obtain rfl := beq_tt hc
            subst q9
            refine ⟨ι, _, w, run_entry_at w b' b2 since seen0.toArray es clock e (by rw [h3, he2]; simp) q3 (q4.mem_iff.1 (List.mem_of_getElem? he1)) ?_, VR_mkTup (vs := [e.key, e.val]) (by
                rw [VRL]; refine ⟨_, _, rfl, by rw [VR], ?_⟩
                rw [VRL]; exact ⟨_, _, rfl, hv3, by rw [VRL]⟩), st.trans st2, sat2⟩
            have := (q4.map (·.born)).nodup_iff.1 (by rw [q8]; exact noDupS hnd)
            exact this
          · cases h
        · cases h
      · cases h
    · cases h
  · cases h
theorem appendN_ok {ts : Array TypeId} {t tx ty : TypeId} {kn : IntKind} {s x av : AV} {vs vx : Value} (h : evAppendN P t s x g = some (.val av g')) (h0 : ts[0]? = some t) (h1 : ts[1]? = some tx) (htx : P.underlying tx = some (.int kn))
    (hy : VR ι s vs) (hx : VR ι x vx) (hN : g'.n ≤ N) (hF : FOK F g') (hs : Sat N F g ι w0 w) : Fin P N F w0 (Builtin.append_ ts ty #[vs, vx]) av g g' ι w := by
  rw [append_ts h0 h1]
  unfold evAppendN at h
  split at h
  · rename_i elem kq m hu
    rw [VR] at hy
    rw [VR] at hx
    subst hy hx
    split at h
    · rename_i cells size inf hrow hinf
      split at h
      · rename_i k g1 hby hm hsz hn
        cases h
        obtain ⟨z, i, hi, hz, his, hzs, hszo, hv⟩ := row_ok hrow
        rw [hinf] at hi
        cases hi
        subst his
        have hle := Nat.le_of_ble_eq_true hm
        have hbyt := Nat.le_of_ble_eq_true hby
        have hpos : 0 < inf.size := by simpa [Nat.blt_eq] using hsz
        have hbig : Builtin.nextslicecap (0 + (m + 1)) 0 * inf.bytes ≤ 281474976710656 := growslice_fits (by omega) (by
          have : (0 + (m + 1)) * inf.bytes ≤ 1048576 * 1024 := Nat.mul_le_mul (by omega) hbyt
          omega)
        have hr := Lib.run_append_grow_zeros (P := P) w t tx ty elem inf z kq kn hu htx hinf hz none 0 0 [] (run_firstCells_none _ _ _ _ _) (m + 1) (by omega) hpos (by omega) (by omega) (by
          have : (m + 1) * inf.bytes ≤ 1048576 * 1024 := Nat.mul_le_mul hle hbyt
          omega) hbig
        have hlen : ((madeCells z.cells ((m + 1) * inf.size)).toList).length = (m + 1) * inf.size := by simp [madeCells]
        obtain ⟨ι', hv2, st, sat⟩ := grown_ok (e := elem) (z := z) (cap := grownCap w (m + 1) 0 elem) (need := m + 1) hn hv hlen hzs (grownCap_ge _ _ _ _) hN hF hs
        refine ⟨ι', _, _, ?_, hv2, st, sat⟩
        rw [show ((m + 1 : Nat) : Int) = Int.ofNat (m + 1) from rfl] at hr
        rw [hr]
        rw [Nat.zero_add]
        have e : (#[] : Array Value) ++ Builtin.zeroCells z.cells (m + 1) = (madeCells z.cells ((m + 1) * inf.size)).toList.toArray := by
          rw [Array.empty_append, Array.toArray_toList]
          unfold Builtin.zeroCells madeCells
          rw [hzs]
        rw [e]
      · cases h
    · cases h
  · cases h
theorem clear_ok {ts : Array TypeId} {t ty : TypeId} {x av : AV} {vx : Value} (h : evClear P t x g = some (.val av g')) (h0 : ts[0]? = some t) (hx : VR ι x vx) (hF : FOK F g') (hs : Sat N F g ι w0 w) :
    Fin P N F w0 (Builtin.clear_ ts ty #[vx]) av g g' ι w := by
  unfold evClear at h
  split at h
  · rename_i k off len cap sz
    rw [VR] at hx
    obtain ⟨b, c, rfl, hlc, hcap, hk⟩ := hx
    split at h
    · rename_i elem hu
      split at h
      · rename_i cells size hrow
        split at h
        · rename_i l g1 hsz hone hr
          split at h
          · rename_i l' hl'
            split at h
            · rename_i g2 hw
              cases h
              obtain ⟨z, i, hi, hz, his, hzs, hszo, hv⟩ := row_ok hrow
              obtain ⟨⟨_, _, _, rfl⟩, hl'⟩ := rowSets_ok hl'
              obtain ⟨h1, ⟨b', q, h2, h3⟩, st, sat, e1, e2⟩ := read_ok hr (hF.write hw) hs
              obtain rfl : b' = b := by
                rcases hk with hk | ⟨m', hk, _⟩
                · rw [h2] at hk; cases hk
                · rw [h2] at hk; cases hk; rfl
              have hb := h3.stored hv hl'
              obtain ⟨a1, a2, a3, a4, a5, _⟩ := setCells_heap w b' (madeCells z.cells (len * size)).toList off
              obtain ⟨st2, sat2, _⟩ := write_ok hw hF sat (by rw [e1]; exact h1) h2 hb a1 a2 a3 a4 a5
              have hth : w.there b' off (madeCells z.cells (len * size)).toList.length := by
                obtain ⟨q1, q2, q3⟩ := setsL_some _ _ _ _ hl'
                have hlv := (VRL_iff.1 hv).1
                have hlen := h3.len
                rcases q1 with q1 | q1
                · rw [q1] at hlv; intro j hj; rw [hlv] at hj; simp at hj
                · exact h3.there (by rw [hlv]; omega)
              have hrun := run_storeCells_cells (P := P) b' off (madeCells z.cells (len * size)).toList 0 w (fun j hj => by simpa using (hth j hj).1) (fun j hj => by simpa using (hth j hj).2) (allOne_VRL hone hv)
              simp only [Nat.add_zero] at hrun
              have hzv : (zeroValue elem).run P w = .ok z w := by simp [zeroValue, typeInfo, hi, hz]
              have ez : Builtin.zeroCells z.cells len = madeCells z.cells (len * size) := by simp [Builtin.zeroCells, madeCells, hzs]
              by_cases hl0 : len = 0
              · subst hl0
                have hnil : (madeCells z.cells (0 * size)).toList = [] := by simp [madeCells]
                rw [hnil] at hrun st2 sat2
                refine ⟨ι, .tuple #[], w, ?_, by rw [VR], st.trans st2, sat2⟩
                simp [Builtin.clear_, h0, run_underlying hu]
              · refine ⟨ι, .tuple #[], _, ?_, by rw [VR], st.trans st2, sat2⟩
                obtain ⟨n, rfl⟩ := Nat.exists_eq_succ_of_ne_zero hl0
                simp [Builtin.clear_, h0, run_underlying hu, hzv, ez, hrun]
            · cases h
          · cases h
        · cases h
      · cases h
    · cases h
  · rw [VR] at hx
    obtain ⟨b, c, rfl⟩ := hx
    split at h
    · rename_i elem hu
      cases h
      refine ⟨ι, .tuple #[], w, ?_, by rw [VR], Step.refl _ _ _, hs⟩
      simp [Builtin.clear_, h0, run_underlying hu]
    · cases h
  · cases h
end
end Go.Proofs.YtjblkeofjkdpbaaGreatDoor.Eng
