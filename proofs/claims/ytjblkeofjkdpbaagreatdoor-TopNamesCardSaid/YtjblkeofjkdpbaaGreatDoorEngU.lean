/- What stands for maps.Clone and for slices.Sorted(maps.Keys(m)) does what they do. No condition. -/
import Derived.Test.YtjblkeofjkdpbaaGreatDoorEngQ
import Derived.Test.YtjblkeofjkdpbaaGreatDoorTopShelf
import Derived.Shelf.SortM.SortNone
namespace Go.Proofs.YtjblkeofjkdpbaaGreatDoor.Eng
open Go Go.RowKit Go.Maps Go.Sort Go.Shelf
set_option linter.unusedVariables false
set_option linter.unusedSimpArgs false
section
variable {P : Program} {N : Nat} {F : Nat → Prop} {g g' : G} {ι : Io} {w0 w w' : World}
/-- A call that leaves what stood. -/
theorem sat_below (hs : Sat N F g ι w0 w) (h : Below w.heap.size w w') : Step g g ι ι w w' ∧ Sat N F g ι w0 w' := by
  have st : Step g g ι ι w w' := ⟨Nat.le_refl _, rfl, fun _ h => h, fun _ h => h, Le.refl _, fun _ _ => .inl rfl, fun _ _ => rfl, fun k b m h1 h2 _ => absurd h2 (by omega), fun _ _ _ => rfl, fun b hb _ => h.block b hb, h.size, h.os, h.tape, h.output⟩
  refine ⟨st, ⟨hs.inj, fun k b m hk => ?_, hs.un, hs.dom, fun k l hF hl => ?_, below_step hs st⟩⟩
  · have := hs.bnd k b m hk
    have := h.size
    omega
  · obtain ⟨b, m, hk, hb⟩ := hs.rel k l hF hl
    exact ⟨b, m, hk, hb.mono (Le.refl _) (h.block b (hs.bnd k b m hk).2)⟩
/-- A new name for a block that a call has made. -/
theorem new_okQ {k q : Nat} {l : Row} {m : Nat} (h : g.new l = some (k, g')) (hN : g'.n ≤ N) (hF : FOK F g') (hs : Sat N F g ι w0 w) (hq : w.heap.size ≤ q) (hq2 : q < w'.heap.size) (hb : BX ι l w' q m) (hbel : Below w.heap.size w w') :
    ∃ ι', Step g g' ι ι' w w' ∧ Sat N F g' ι' w0 w' ∧ ι' k = .at_ q m ∧ Le ι ι' := by
  obtain ⟨H, hH, rfl, rfl⟩ : ∃ H, T.set (some l) fuelT g.H g.n = some H ∧ k = g.n ∧ g' = ⟨H, g.n + 1, g.thr, g.rd, g.wr⟩ := by
    rw [G.new_def] at h
    unfold G.newO at h
    split at h
    · cases h
    · rename_i H hH
      rw [forceNat_eq] at h
      cases h
      exact ⟨H, hH, rfl, rfl⟩
  have hget := T.set_get _ _ _ _ _ hH
  have hun : ι g.n = .un := hs.un g.n (Nat.le_refl _) (by simp at hN; omega)
  let ι' : Io := fun j => if j = g.n then .at_ q m else ι j
  have hle : Le ι ι' := fun j => by
    by_cases e : j = g.n
    · left; rw [e]; exact hun
    · right; left; simp [ι', e]
  have st : Step g ⟨H, g.n + 1, g.thr, g.rd, g.wr⟩ ι ι' w w' := by
    refine ⟨Nat.le_succ _, rfl, fun _ h => h, fun _ h => h, hle, fun j hj => .inl ?_, fun j hj => ?_, fun j d m' h1 h2 h3 => .inl ?_, fun j hj hw => ?_, fun d hd _ => hbel.block d hd, hbel.size, hbel.os, hbel.tape, hbel.output⟩
    · show (if j = g.n then _ else _) = _; rw [if_neg (by omega)]
    · show (if j = g.n then _ else _) = _; rw [if_neg (by simp at hj; omega)]
    · have e : j = g.n := by simp at h2; omega
      subst e
      simp [ι'] at h3
      omega
    · show H.get j = _
      rw [hget, if_neg (by omega)]
  refine ⟨ι', st, ⟨fun i j d m1 m2 h1 h2 => ?_, fun i d m1 h1 => ?_, fun i h1 h2 => ?_, fun j l' hl => ?_, fun j l' hj hl => ?_, below_step hs st⟩, by simp [ι'], hle⟩
  · by_cases e1 : i = g.n
    · by_cases e2 : j = g.n
      · rw [e1, e2]
      · simp [ι', e1, e2] at h1 h2
        have := (hs.bnd _ _ _ h2).2
        omega
    · by_cases e2 : j = g.n
      · simp [ι', e1, e2] at h1 h2
        have := (hs.bnd _ _ _ h1).2
        omega
      · simp [ι', e1, e2] at h1 h2
        exact hs.inj _ _ _ _ _ h1 h2
  · by_cases e1 : i = g.n
    · simp [ι', e1] at h1
      have := hs.bel.size
      omega
    · simp [ι', e1] at h1
      have := hs.bnd _ _ _ h1
      have := hbel.size
      omega
  · show (if i = g.n then _ else _) = _
    simp at h1
    rw [if_neg (by omega)]
    exact hs.un i (by omega) h2
  · show j < g.n + 1
    change H.get j = _ at hl
    rw [hget] at hl
    split at hl
    · omega
    · have := hs.dom _ _ hl; omega
  · change H.get j = _ at hl
    rw [hget] at hl
    split at hl
    · rename_i e
      subst e
      cases hl
      exact ⟨q, m, by simp [ι'], hb.mono hle rfl⟩
    · rename_i hne
      obtain ⟨d, m', hd, hbr⟩ := hs.rel j l' hj hl
      refine ⟨d, m', by show (if j = g.n then _ else _) = _; rw [if_neg hne]; exact hd, hbr.mono hle (hbel.block d (hs.bnd _ _ _ hd).2)⟩
end
/-! ### maps.Clone -/
theorem primClone_ok {args : List AV} {g g' : G} {av : AV} (h : primClone args g = some (av, g')) : Mono g g' ∧ ∀ N F w0 ι w (vs : List Value), g'.n ≤ N → FOK F g' → Sat N F g ι w0 w → g.thr ≤ g.n → VRL ι args vs → Ran Tryz.prog ι w vs (Post N F w0 av g g' ι w) (.fn 127) := by
  unfold primClone at h
  split at h
  · rename_i k
    split at h
    · rename_i ks bs vs1 g1 hr
      split at h
      · rename_i k2 g2 hn
        cases h
        refine ⟨(Mono.readX hr).tr (Mono.new hn), fun N F w0 ι w vs hN hF hs hthr hv => ?_⟩
        rw [VRL] at hv
        obtain ⟨v, us, rfl, hx, hv⟩ := hv
        rw [VRL] at hv
        subst hv
        rw [VR] at hx
        obtain ⟨b, rfl, hk⟩ := hx
        have hF1 := hF.new hn
        obtain ⟨h1, ⟨b', m, h2, es, clock, l, h3, h4, h5, h6, h7, h8⟩, st, sat, hH, _⟩ := readX_ok hr hF1 hs
        obtain rfl := is_eq hk h2
        obtain ⟨ι', st2, sat2, hk2, hle⟩ := new_okX (w' := w.alloc (.map es clock)) (m := 0) hn hN hF sat (show BX ι (.odd (.mp ks bs vs1)) (w.alloc (.map es clock)) w.heap.size 0 from ⟨es, clock, l, heap_alloc_at w _, h4, h5, h6, h7, h8⟩)
          (show (w.heap.push _).size = _ by simp) rfl rfl rfl (fun d hd => heap_alloc_lt w _ hd)
        refine callsIn_wide.2 ((AnyW.maps_Clone Tryz.mapsA b' es clock w h3).mono ?_)
        rintro e w' ⟨rfl, rfl⟩
        exact ⟨ι', _, rfl, by rw [VR]; exact ⟨_, rfl, .inr ⟨_, hk2⟩⟩, st.trans st2, sat2⟩
      · cases h
    · cases h
  · cases h
    refine ⟨Mono.refl _, fun N F w0 ι w vs hN hF hs hthr hv => ?_⟩
    rw [VRL] at hv
    obtain ⟨v, us, rfl, hx, hv⟩ := hv
    rw [VRL] at hv
    subst hv
    rw [VR] at hx
    subst hx
    refine callsIn_wide.2 ((AnyW.maps_Clone_nil Tryz.mapsA w).mono ?_)
    rintro e w' ⟨rfl, rfl⟩
    exact ⟨ι, _, rfl, by rw [VR], Step.refl _ _ _, hs⟩
  · cases h
/-! ### slices.Sorted(maps.Keys(m)) -/
theorem insI_perm (z : Int) : ∀ l : List Int, (insI z l).Perm (z :: l)
  | [] => .refl _
  | x :: l => by
    simp only [insI]
    split
    · exact .refl _
    · exact ((insI_perm z l).cons x).trans (.swap z x l)
theorem sortI_perm : ∀ l : List Int, (sortI l).Perm l
  | [] => .refl _
  | z :: l => (insI_perm z (sortI l)).trans ((sortI_perm l).cons z)
theorem risesI_lt : ∀ {l : List Int}, risesI l = true → l.Pairwise (· < ·)
  | [], _ => .nil
  | [x], _ => List.pairwise_singleton _ _
  | x :: y :: l, h => by
    simp only [risesI] at h
    split at h
    · rename_i hxy
      have hp := risesI_lt (l := y :: l) (by simpa [risesI] using h)
      have hxy : x < y := of_decide_eq_true hxy
      refine List.pairwise_cons.2 ⟨fun a ha => ?_, hp⟩
      rcases List.mem_cons.1 ha with rfl | ha
      · exact hxy
      · have := (List.pairwise_cons.1 hp).1 a ha
        omega
    · cases h
theorem intKs_some : ∀ {ks : List Value} {zs : List Int}, intKs ks = some zs → ks = zs.map (Value.int .i64) ∧ ∀ z ∈ zs, -9223372036854775808 ≤ z ∧ z ≤ 9223372036854775807
  | [], zs, h => by simp [intKs] at h; subst h; exact ⟨rfl, fun z hz => (by cases hz)⟩
  | k :: ks, zs, h => by
    unfold intKs at h
    split at h
    · cases h; rename_i e; cases e
    · rename_i z l e
      cases e
      split at h
      · rename_i zs' hz hrec
        cases h
        obtain ⟨h1, h2⟩ := intKs_some hrec
        refine ⟨by rw [h1]; rfl, fun x hx => ?_⟩
        rcases List.mem_cons.1 hx with rfl | hx
        · exact of_decide_eq_true hz
        · exact h2 x hx
      · cases h
    · cases h
theorem intsA_eq : ∀ l : List Int, intsA l = l.map fun z => AV.v (.int .i64 z)
  | [] => rfl
  | z :: l => by
    simp only [intsA, forceInt_eq, intsA_eq l]
    rfl
def RH (v : Value) : Option (DataW Value × List MemPlace) := some (.held v, [])
theorem sorts_any (m : Nat) : AnyZI.SortsIn Tryz.prog Tryz.sortedA_ren Fence.wide m :=
  ⟨fun blk off cap ss W hH hblk hsz => callsIn_wide.2 (AnyM.slices_Sort_int Tryz.sortA blk off cap ss W hH hblk hsz),
   fun p cap W => callsIn_wide.2 (AnyM.slices_Sort_int_none Tryz.sortA p cap W)⟩
theorem sortedKeys_any (g b n : Nat) (D : DataW Value) (w : World) (hg : g < w.heap.size) (hm : w.cell? ⟨g, 0, none⟩ = some (.map (some b))) (hown : w.ownsMap Tryz.prog 3 RH b n D) (hn : n ≤ 1000000) :
    Calls Tryz.prog 202 #[.func (.func 247) #[] #[.pointer (some ⟨g, 0, none⟩)]] w fun e w' => ∃ (v : Value) (ss : List Int), e = .returned v ∧ ss.Perm (intKeys D) ∧
      w'.ownsRow w.heap.size 3 1 v ss.length ((ss.mergeSort (fun x y => decide (x ≤ y))).map encZ) ∧ (v = .slice none 0 0 ↔ ss = []) ∧ Below w.heap.size w w' := by
  have hsz : Maps.size D ≤ n := hown.size_le
  have hseq : SeqGives Fence.wide 2 Tryz.prog 247 #[.pointer (some ⟨g, 0, none⟩)] encZ (fun ss => ss.Perm (intKeys D)) (Maps.size D) w :=
    AnyZI.keys_gives (ρ := Tryz.keysA_ren) { Tryz.keysA with } Fence.wide _ trivial rfl (by omega) g b n D _ hg hm hown
  have cS := AnyZI.sorted_in Tryz.sortedA Fence.wide 5 trivial trivial trivial trivial rfl (by omega) (sorts_any _) (enters_of Tryz.func82 (by kernel_rfl) rfl) 247 #[.pointer (some ⟨g, 0, none⟩)] trivial (enters_of Tryz.func247 (by kernel_rfl) rfl) _ (Maps.size D) (by unfold maxLen; omega) (by omega) _ hseq
  exact (callsIn_wide (n := 5)).1 cS
theorem key_lit (z : Int) (h : -9223372036854775808 ≤ z ∧ z ≤ 9223372036854775807) : keyOf Tryz.prog 3 (.int .i64 z) = some (.int .i64 z) := keyOf_int_mk Tryz.underlying3 (WalkArith.wf_i64 h)
theorem primSorted_ok {args : List AV} {g g' : G} {av : AV} (h : primSorted 247 3 args g = some (av, g')) : Mono g g' ∧ ∀ N F w0 ι w (vs : List Value), g'.n ≤ N → FOK F g' → Sat N F g ι w0 w → g.thr ≤ g.n → VRL ι args vs →
    Ran Tryz.prog ι w vs (Post N F w0 av g g' ι w) (.fn 202) := by
  unfold primSorted at h
  split at h
  · rename_i f b
    split at h
    · rename_i l g1 hf hr
      have hf := beq_tt hf
      subst hf
      split at h
      · rename_i k hrow
        split at h
        · rename_i ks bs vs1 g2 hr2
          split at h
          · rename_i zs hks hlen
            obtain ⟨e1, e2⟩ := intKs_some hks
            have hlen := Nat.le_of_ble_eq_true hlen
            have mono12 := (Mono.read hr).tr (Mono.readX hr2)
            have main : ∀ N F w0 ι w (vs : List Value), FOK F g2 → Sat N F g ι w0 w → (sortI zs).Pairwise (· < ·) → VRL ι [.fn (.func 247) [] [.ptr b 0]] vs → Step g g2 ι ι w w ∧ Sat N F g2 ι w0 w ∧
                Calls Tryz.prog 202 vs.toArray w fun e w' => ∃ v, e = .returned v ∧ w'.ownsRow w.heap.size 3 1 v zs.length ((sortI zs).map encZ) ∧ (v = .slice none 0 0 ↔ zs = []) ∧ Below w.heap.size w w' := by
              intro N F w0 ι w vs hF2 hs hrise hv
              rw [VRL] at hv
              obtain ⟨v, us, rfl, hx, hv⟩ := hv
              rw [VRL] at hv
              subst hv
              rw [VR] at hx
              obtain ⟨xs, ys, rfl, hx1, hx2⟩ := hx
              rw [VRL] at hx1
              obtain rfl : xs = #[] := Array.toList_inj.1 hx1
              rw [VRL] at hx2
              obtain ⟨v2, us2, e3, hp, hx2⟩ := hx2
              rw [VRL] at hx2
              subst hx2
              rw [VR] at hp
              obtain ⟨B, rfl, hB⟩ := hp
              obtain rfl : ys = #[.pointer (some ⟨B, 0, none⟩)] := Array.toList_inj.1 e3
              obtain ⟨h1, ⟨b1, m1, h2, h3⟩, st, sat, hH, _⟩ := read_ok hr (hF2.readX hr2) hs
              obtain rfl := is_eq hB h2
              have hcell := rowGet_ok hrow
              rw [getL_eq] at hcell
              obtain ⟨c0, hc0, hc1⟩ := h3.cell hcell
              rw [VR] at hc1
              obtain ⟨M, rfl, hM⟩ := hc1
              obtain ⟨q1, ⟨b2, m2, q2, es, clock, l2, q3, q4, q5, q6, q7, q8⟩, st2, sat2, hH2, _⟩ := readX_ok hr2 hF2 sat
              obtain rfl := is_eq hM q2
              refine ⟨st.trans st2, sat2, ?_⟩
              have hkeys : l2.map (·.key) = zs.map (Value.int .i64) := by rw [q5, e1]
              have hnod : zs.Nodup := ((sortI_perm zs).nodup_iff).1 (hrise.imp fun h => by omega)
              have hk1 : ∀ x ∈ es.toList, ∃ z, x.key = .int .i64 z ∧ z ∈ zs := fun x hx => by
                have : x.key ∈ l2.map (·.key) := List.mem_map_of_mem (q4.mem_iff.2 hx)
                rw [hkeys] at this
                obtain ⟨z, hz, e⟩ := List.mem_map.1 this
                exact ⟨z, e.symm, hz⟩
              have hesz : es.size = zs.length := by
                have h1 : l2.length = es.size := by rw [q4.length_eq, Array.length_toList]
                have h2 := congrArg List.length hkeys
                simp only [List.length_map] at h2
                omega
              have hzl : zs.length ≤ 1000 := by rw [e1, List.length_map] at hlen; exact hlen
              have hrd : ∀ x ∈ es.toList, ∀ z, x.key = .int .i64 z → z ∈ zs → Go.WideElems.rd Tryz.prog 3 RH x = some (.int .i64 z, .held x.val) := fun x hx z e hz => by
                unfold Go.WideElems.rd RH
                rw [e, key_lit z (e2 z hz)]
                rfl
              have hfit : Go.WideElems.Fit Tryz.prog 3 RH es clock := by
                refine ⟨by unfold maxLen; omega, ⟨fun x hx => q8.2 x (q4.mem_iff.2 hx), ((q4.map _).nodup_iff).1 q8.1, ((q4.map _).nodup_iff).1 ?_⟩, fun x hx => ?_⟩
                · rw [hkeys]
                  exact List.Pairwise.map _ (fun a b hab e => hab (by injection e)) hnod
                · obtain ⟨z, e, hz⟩ := hk1 x hx
                  exact ⟨_, hrd x hx z e hz⟩
              have hown : w.ownsMap Tryz.prog 3 RH b2 1000 (.map ((es.toList.map (Go.WideElems.rg Tryz.prog 3 RH)).foldr DataW.insert [])) := ⟨es, clock, q3, hfit, by omega, rfl⟩
              have hlt : b1 < w.heap.size := (hs.bnd _ _ _ h2).2
              refine (sortedKeys_any b1 b2 1000 _ w hlt hc0 hown (by omega)).mono ?_
              rintro e w' ⟨v, ss, rfl, hss, hrow2, hnil, hbel⟩
              have hperm : ss.Perm zs := by
                refine hss.trans ?_
                show (((es.toList.map (Go.WideElems.rg Tryz.prog 3 RH)).foldr DataW.insert []).map fun p => Go.intOf p.1).Perm zs
                refine ((WideShapes.sorted_perm _).map _).trans ?_
                rw [List.map_map]
                have e4 : (es.toList.map ((fun p : Lit × DataW Value => Go.intOf p.1) ∘ Go.WideElems.rg Tryz.prog 3 RH)) = es.toList.map (fun x => match x.key with | .int _ z => z | _ => 0) := by
                  refine List.map_congr_left fun x hx => ?_
                  obtain ⟨z, e, hz⟩ := hk1 x hx
                  simp only [Function.comp, Go.WideElems.rg, hrd x hx z e hz, Option.getD_some, e]
                  rfl
                rw [e4]
                refine ((q4.symm.map _)).trans ?_
                have e5 : l2.map (fun x : MapEntry => match x.key with | .int _ z => z | _ => 0) = (l2.map (·.key)).map (fun v : Value => match v with | .int _ z => z | _ => 0) := by rw [List.map_map]; rfl
                rw [e5, hkeys, List.map_map]
                exact .of_eq (by simp [Function.comp_def])
              have hms : ss.mergeSort (fun x y => decide (x ≤ y)) = sortI zs := by
                refine List.Perm.eq_of_pairwise (le := (· ≤ ·)) (fun a b _ _ h1 h2 => Int.le_antisymm h1 h2) ?_ (hrise.imp fun h => Int.le_of_lt h) (((List.mergeSort_perm ss _).trans hperm).trans (sortI_perm zs).symm)
                exact (List.pairwise_mergeSort (le := fun x y : Int => decide (x ≤ y)) (fun a b c h1 h2 => decide_eq_true (Int.le_trans (of_decide_eq_true h1) (of_decide_eq_true h2))) (fun a b => by
                  rcases Int.le_total a b with h | h
                  · simp [h]
                  · simp [h]) ss).imp fun h => of_decide_eq_true h
              rw [hms, hperm.length_eq] at hrow2
              exact ⟨v, rfl, hrow2, hnil.trans ⟨fun e => by subst e; exact (List.nil_perm.1 hperm), fun e => by subst e; exact List.perm_nil.1 hperm⟩, hbel⟩
            split at h
            · rename_i hs0
              cases h
              have hz0 : zs = [] := by
                have := (sortI_perm zs).length_eq
                rw [hs0] at this
                exact List.eq_nil_of_length_eq_zero this.symm
              refine ⟨mono12, fun N F w0 ι w vs hN hF hs hthr hv => ?_⟩
              obtain ⟨st, sat, hc⟩ := main N F w0 ι w vs hF hs (by rw [hs0]; exact .nil) hv
              refine callsIn_wide.2 (hc.mono ?_)
              rintro e w' ⟨v, rfl, hrow2, hnil, hbel⟩
              obtain ⟨st2, sat2⟩ := sat_below sat hbel
              exact ⟨ι, v, rfl, by rw [VR]; exact hnil.2 hz0, st.trans st2, sat2⟩
            · rename_i z l hsz
              split at h
              · rename_i k2 g3 hri hn
                rw [forceNat_eq] at h
                cases h
                obtain ⟨n0, p0, t0, hn1, hn2⟩ := newL_some hn
                refine ⟨mono12.tr (Mono.newL hn), fun N F w0 ι w vs hN hF hs hthr hv => ?_⟩
                have hF2 := hF.newL hn
                obtain ⟨st, sat, hc⟩ := main N F w0 ι w vs hF2 hs (by rw [hsz]; exact risesI_lt hri) hv
                refine callsIn_wide.2 (hc.mono ?_)
                rintro e w' ⟨v, rfl, hrow2, hnil, hbel⟩
                have hzl : (z :: l).length = zs.length := by rw [← hsz]; exact (sortI_perm zs).length_eq
                obtain ⟨r1, r2⟩ := hrow2
                rcases r2 with ⟨_, r3⟩ | ⟨q, cap, cur, rfl, r3, r4, r5, r6, r7, r8⟩
                · rw [← hzl] at r3; cases r3
                · rw [hsz] at r8
                  have hl := congrArg List.length r8
                  simp only [List.length_take, Array.length_toList, List.length_map] at hl
                  have hq2 : q < w'.heap.size := (Array.getElem?_eq_some_iff.1 r4).1
                  obtain ⟨ι', st2, sat2, hk2, hle⟩ := new_okQ (w' := w') (q := q) (m := cur.size) hn1 hN hF sat r3 hq2 (show BR ι 3 false (Row.cells 3 false n0 p0 t0).toL w' q cur.size from by
                    rw [hn2]
                    refine ⟨cur, _, (0, 0), r4, rfl, fun i a ha => ?_, fun off _ h => by simp at h, rfl, fun e => by cases e⟩
                    rw [intsA_eq, List.getElem?_map] at ha
                    obtain ⟨y, hy, rfl⟩ := Option.map_eq_some_iff.1 ha
                    refine ⟨.int .i64 y, ?_, by rw [VR]⟩
                    have hi : i < (z :: l).length := (List.getElem?_eq_some_iff.1 hy).1
                    have h9 := congrArg (fun l => l[i]?) r8
                    simp only [List.getElem?_map, hy, Option.map_some] at h9
                    rw [List.getElem?_take_of_lt (by omega), Array.getElem?_toList] at h9
                    exact h9) hbel
                  refine ⟨ι', _, rfl, ?_, st.trans st2, sat2⟩
                  rw [hzl, VR]
                  exact ⟨q, cap, rfl, r5, fun c' e => (by cases e), .inr ⟨_, hk2, fun _ => by rw [r7]; omega⟩⟩
              · cases h
          · cases h
        · cases h
      · cases h
    · cases h
  · cases h
/-- What stands for what. -/
noncomputable def prT : FuncId → Option (List AV → G → Option (AV × G)) := fun f => match Nat.beq f 127 with
  | true => some primClone
  | false => match Nat.beq f 202 with
    | true => some (primSorted 247 3)
    | false => none
/-- The functions whose own loops go over maps. -/
noncomputable def ndT : FuncId → Option Bool := fun f => match Nat.beq f 74 with
  | true => some true
  | false => match Nat.beq f 185 with
    | true => some false
    | false => match Nat.beq f 141 with
      | true => some false
      | false => none
theorem prT_ok : PrimOK Tryz.prog prT := by
  intro f p args g av g' hp h
  unfold prT at hp
  split at hp
  · rename_i hf
    cases hp
    rw [beq_tt hf]
    exact primClone_ok h
  · split at hp
    · rename_i hf
      cases hp
      rw [beq_tt hf]
      exact primSorted_ok h
    · cases hp
end Go.Proofs.YtjblkeofjkdpbaaGreatDoor.Eng
