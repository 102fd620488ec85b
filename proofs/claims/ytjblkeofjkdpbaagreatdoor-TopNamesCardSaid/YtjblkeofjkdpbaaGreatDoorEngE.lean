/- Each operation of the evaluator is the model's: parts, rows, append, copy, conversions. No condition. -/
import Derived.Test.YtjblkeofjkdpbaaGreatDoorEngD
import Derived.Lib.ConvBytes
namespace Go.Proofs.YtjblkeofjkdpbaaGreatDoor.Eng
open Go Go.RowKit
set_option linter.unusedVariables false
set_option linter.unusedSimpArgs false
section
variable {P : Program} {N : Nat} {F : Nat → Prop} {g g' : G} {ι : Io} {w0 w : World}
theorem VRL_slice {l cs : List AV} {vs : List Value} {o n : Nat} (h : VRL ι l vs) (hs : slice? l o n = some cs) : VRL ι cs ((vs.drop o).take n) ∧ o + n ≤ vs.length := by
  obtain ⟨h1, h2, h3⟩ := slice?_some hs
  obtain ⟨h4, h5⟩ := VRL_iff.1 h
  refine ⟨VRL_iff.2 ⟨by rw [List.length_take, List.length_drop]; omega, fun i a ha => ?_⟩, by omega⟩
  have hi : i < n := by rw [← h1]; exact (List.getElem?_eq_some_iff.1 ha).1
  rw [h3 i hi] at ha
  obtain ⟨v, hv, hr⟩ := h5 _ _ ha
  exact ⟨v, by rw [List.getElem?_take_of_lt hi, List.getElem?_drop]; exact hv, hr⟩
theorem part_run {t : TypeId} {l : List AV} {o : Nat} {av : AV} {vs : Array Value} (hp : part? P t l o = some av) (h : VRL ι l vs.toList) : ∃ v, (∀ w, (part t vs o).run P w = .ok v w) ∧ VR ι av v := by
  unfold part? at hp
  split at hp
  · rename_i ha
    split at hp
    · rename_i n hn
      split at hp
      · rename_i cs hc
        cases hp
        obtain ⟨h1, h2⟩ := VRL_slice h hc
        refine ⟨.agg (vs.extract o (o + n)), fun w => by simp [part, Sem.run_bind, run_agg ha w, run_sz hn w], ?_⟩
        have e : vs.extract o (o + n) = ((vs.toList.drop o).take n).toArray := by
          apply Array.toList_inj.1
          rw [Array.toList_extract]
          simp [List.extract]
        rw [e]
        exact VR_mkAgg h1
      · cases hp
    · cases hp
  · rename_i ha
    rw [getL_eq] at hp
    obtain ⟨v, hv, hr⟩ := (VRL_iff.1 h).2 _ _ hp
    refine ⟨v, fun w => ?_, hr⟩
    have : vs[o]? = some v := by rw [← Array.getElem?_toList]; exact hv
    simp [part, Sem.run_bind, run_agg ha w, this]
  · cases hp
theorem field_ok {t : TypeId} {x av : AV} {f : Nat} {v : Value} (h : evField P t x f g = some (.val av g')) (hx : VR ι x v) (hs : Sat N F g ι w0 w) : Fin P N F w0 (Instr.field t v f) av g g' ι w := by
  unfold evField at h
  split at h
  · rw [VR] at hx
    subst hx
    exact plain_ok h hs
  · split at h
    · rename_i fields hu
      split at h
      · rename_i fd hf
        split at h
        · rename_i a hp
          cases h
          rw [VR] at hx
          obtain ⟨vs, rfl, hl⟩ := hx
          obtain ⟨v, hv, hr⟩ := part_run (P := P) hp hl
          exact Fin.pure hs (by simp [Instr.field, Sem.run_bind, run_underlying hu, hf, asAgg, hv]) hr
        · cases h
      · cases h
    · cases h
  · cases h
theorem index_agg_ok {t elem : TypeId} {l : List AV} {len i size : Nat} {k : IntKind} {av : AV} {v : Value} (hu : P.underlying t = some (.array len elem)) (hi : i < len) (hn : szOf P elem = some size) (hp : part? P elem l (i * size) = some av) (hx : VR ι (.agg l) v)
    (hs : Sat N F g ι w0 w) : Fin P N F w0 (Instr.index t v (.int k (.ofNat i))) av g g ι w := by
  rw [VR] at hx
  obtain ⟨vs, rfl, hl⟩ := hx
  obtain ⟨v, hv, hr⟩ := part_run (P := P) hp hl
  exact Fin.pure hs (by simp [Instr.index, Sem.run_bind, run_underlying hu, asIntOf, hi, run_sz hn, hv]) hr
theorem extract_ok {l : List AV} {i : Nat} {av : AV} {v : Value} (h : getL l i = some av) (hx : VR ι (.tup l) v) (hs : Sat N F g ι w0 w) : Fin P N F w0 (Instr.extract v i) av g g ι w := by
  rw [VR] at hx
  obtain ⟨vs, rfl, hl⟩ := hx
  rw [getL_eq] at h
  obtain ⟨v, hv, hr⟩ := (VRL_iff.1 hl).2 _ _ h
  have : vs[i]? = some v := by rw [← Array.getElem?_toList]; exact hv
  exact Fin.pure hs (by simp [Instr.extract, this]) hr
/-! ### build -/
theorem fold_sets : ∀ (vs : List Value) (j : Nat) (c : Array Value) (o : Nat),
    ((vs.zipIdx j).foldl (fun (cs : Array Value) (x : Value × Nat) => cs.setIfInBounds (o + x.2) x.1) c).toList = (vs.zipIdx j).foldl (fun (cs : List Value) (x : Value × Nat) => cs.set (o + x.2) x.1) c.toList := by
  intro vs
  induction vs with
  | nil => intro j c o; rfl
  | cons v vs ih => intro j c o; simp only [List.zipIdx_cons, List.foldl_cons]; rw [ih]; simp
theorem setsL_fold {ι : Io} : ∀ (cs : List AV) (vs us : List Value) (l l' : List AV) (o j : Nat), VRL ι l us → VRL ι cs vs → setsL l (o + j) cs = some l' → VRL ι l' ((vs.zipIdx j).foldl (fun c (x : Value × Nat) => c.set (o + x.2) x.1) us) := by
  intro cs
  induction cs with
  | nil => intro vs us l l' o j h k hs; rw [VRL] at k; subst k; simp [setsL] at hs; subst hs; exact h
  | cons a cs ih =>
    intro vs us l l' o j h k hs
    rw [VRL] at k
    obtain ⟨v, ws, rfl, h1, h2⟩ := k
    simp only [setsL] at hs
    split at hs
    · rename_i m hm
      obtain ⟨h3, rfl⟩ := setL_some _ _ _ _ hm
      rw [List.zipIdx_cons, List.foldl_cons]
      refine ih ws _ _ _ o (j + 1) ?_ h2 hs
      obtain ⟨h4, h5⟩ := VRL_iff.1 h
      refine VRL_iff.2 ⟨by simp [h4], fun i b hb => ?_⟩
      rw [List.getElem?_set] at hb ⊢
      split at hb
      · rename_i e
        subst e
        rw [if_pos rfl, if_pos (by omega)]
        cases hb
        exact ⟨v, rfl, h1⟩
      · rename_i e
        rw [if_neg e]
        exact h5 i b hb
    · cases hs
/-- Parts and their values. -/
def PR (ι : Io) : List (Nat × AV) → List (Nat × Value) → Prop
  | [], ps => ps = []
  | (i, a) :: l, ps => ∃ v us, ps = (i, v) :: us ∧ VR ι a v ∧ PR ι l us
theorem fill_run {place : Nat → Option (Nat × Nat)} : ∀ {parts : List (Nat × AV)} {ps : List (Nat × Value)} {cells l : List AV} {cs : Array Value}, fillA place cells parts = some l → VRL ι cells cs.toList → PR ι parts ps →
    ∃ cs', Instr.fill place cs ps = some cs' ∧ VRL ι l cs'.toList
  | [], ps, cells, l, cs, h, hc, hp => by
    rw [PR] at hp
    subst hp
    simp [fillA] at h
    subst h
    exact ⟨cs, rfl, hc⟩
  | (i, a) :: rest, ps, cells, l, cs, h, hc, hp => by
    rw [PR] at hp
    obtain ⟨v, us, rfl, hr, h2⟩ := hp
    simp only [fillA] at h
    split at h
    · cases h
    · rename_i off size hpl
      split at h
      · rename_i hlen hfit
        split at h
        · rename_i cells' hset
          have hv := VR_cells hr
          have hvl := (VRL_iff.1 hv).1
          have hcl := (VRL_iff.1 hc).1
          rw [Array.length_toList] at hcl hvl
          have hsize : v.cells.size = size := by rw [hvl]; exact beq_tt hlen
          have hfit' := Nat.le_of_ble_eq_true hfit
          have hnew := setsL_fold a.cells v.cells.toList cs.toList cells cells' off 0 hc hv (by simpa using hset)
          have e : (v.cells.zipIdx.foldl (fun cs (x : Value × Nat) => cs.setIfInBounds (off + x.2) x.1) cs).toList = (v.cells.toList.zipIdx 0).foldl (fun (c : List Value) (x : Value × Nat) => c.set (off + x.2) x.1) cs.toList := by
            rw [← Array.foldl_toList, Array.toList_zipIdx, fold_sets]
          rw [← e] at hnew
          obtain ⟨cs', h3, h4⟩ := fill_run h hnew h2
          refine ⟨cs', ?_, h4⟩
          have h5 : ¬ (v.cells.size ≠ size) := by omega
          have h6 : ¬ (off + v.cells.size > cs.size) := by omega
          simp only [Instr.fill, hpl]
          rw [if_neg (by simp; omega)]
          exact h3
        · cases h
      · cases h
theorem PR_parts {tm : T AV} {ρ : Operand → Value} : ∀ (l : List (Nat × Operand)), (∀ x ∈ l.map (·.2), VR ι (opnd tm x) (ρ x)) → PR ι (partsA tm l) (l.map fun (i, x) => (i, ρ x))
  | [], _ => by rw [partsA, PR]; rfl
  | (i, x) :: l, h => by rw [partsA, PR]; exact ⟨_, _, rfl, h x (by simp), PR_parts l fun y hy => h y (by simp at hy ⊢; exact .inr hy)⟩
theorem places_run : ∀ {fs : List Field} {pl : List (Nat × Nat)}, placesA P fs = some pl → ∀ w, (fs.mapM fun f => do pure (f.offset, ← sizeOf f.type) : Sem (List (Nat × Nat))).run P w = .ok pl w
  | [], pl, h, w => by simp [placesA] at h; subst h; rfl
  | f :: fs, pl, h, w => by
    simp only [placesA] at h
    split at h
    · rename_i n l hn hl
      cases h
      have ih := places_run hl w
      rw [List.mapM_cons]
      simp only [Sem.run_bind, run_sz hn w, Result.andThen_ok, Sem.run_pure, ih]
    · cases h
theorem build_ok {t : TypeId} {parts : Array (Nat × Operand)} {tm : T AV} {ρ : Operand → Value} {av : AV} (h : evBuild P t (partsA tm parts.toList) = some av) (hρ : ∀ x ∈ parts.toList.map (·.2), VR ι (opnd tm x) (ρ x)) (hs : Sat N F g ι w0 w) :
    Fin P N F w0 (Instr.build t (parts.map fun (i, x) => (i, ρ x))) av g g ι w := by
  have hps := PR_parts parts.toList hρ
  have eps : (parts.map fun (x : Nat × Operand) => (x.1, ρ x.2)).toList = parts.toList.map fun (i, x) => (i, ρ x) := by simp
  unfold evBuild at h
  split at h
  · rename_i zero fields hz hu
    split at h
    · rename_i pl hpl
      split at h
      · rename_i cells hc
        cases h
        obtain ⟨z, i, hi, hz2, hzr, rfl⟩ := run_zero hz w
        obtain ⟨cs', h1, h2⟩ := fill_run hc (VRL_mapV z.cells.toList) hps
        refine Fin.pure hs (v := .agg cs') ?_ (by have := VR_mkAgg h2; simpa using this)
        have hpr := places_run hpl w
        have hmap : (fields.mapM fun f => do pure (f.offset, ← sizeOf f.type) : Sem (Array (Nat × Nat))).run P w = .ok pl.toArray w := by
          have e : fields = fields.toList.toArray := rfl
          rw [e, List.mapM_toArray, map_eq_pure_bind]
          simp only [Sem.run_bind, hpr, Result.andThen_ok, Function.comp_apply, Sem.run_pure]
        have efun : (fun i => pl.toArray[i]?) = fun i => getL pl i := by funext i; rw [getL_eq]; simp
        simp only [Instr.build, Sem.run_bind, hzr, Result.andThen_ok, run_underlying hu, hmap, eps, efun, h1]
        rfl
      · cases h
    · cases h
  · rename_i zero n elem hz hu
    split at h
    · rename_i size hn
      split at h
      · rename_i cells hc
        cases h
        obtain ⟨z, i, hi, hz2, hzr, rfl⟩ := run_zero hz w
        obtain ⟨cs', h1, h2⟩ := fill_run hc (VRL_mapV z.cells.toList) hps
        refine Fin.pure hs (v := .agg cs') ?_ (by have := VR_mkAgg h2; simpa using this)
        simp only [Instr.build, Sem.run_bind, hzr, Result.andThen_ok, run_underlying hu, run_sz hn, eps, h1]
        rfl
      · cases h
    · cases h
  · cases h
end
end Go.Proofs.YtjblkeofjkdpbaaGreatDoor.Eng
