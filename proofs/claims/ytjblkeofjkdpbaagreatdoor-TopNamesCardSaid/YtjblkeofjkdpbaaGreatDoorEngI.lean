/- All operations of the evaluator are the model's. Condition: no function of the program is runtime.NumGoroutine. -/
import Derived.Test.YtjblkeofjkdpbaaGreatDoorEngH
namespace Go.Proofs.YtjblkeofjkdpbaaGreatDoor.Eng
open Go Go.RowKit
set_option linter.unusedVariables false
set_option linter.unusedSimpArgs false
section
variable {P : Program} {N : Nat} {F : Nat → Prop} {g g' : G} {ι : Io} {w0 w : World}
theorem evOp_val (hng : noNumG P = true) {tm : T AV} {o : Oper} {ρ : Operand → Value} {av : AV} (hρ : ∀ x ∈ useOf o.op, VR ι (opnd tm x) (ρ x)) (h : evOp P tm o g = some (.val av g')) (hN : g'.n ≤ N) (hF : FOK F g') (hs : Sat N F g ι w0 w) :
    FinN P N F w0 (execOp ρ o) av g g' ι w := by
  unfold evOp at h
  cases hop : o.op <;> rw [hop] at h hρ <;> simp only [execOp, hop] <;> simp only [reduceCtorEq] at h <;> simp only [useOf] at hρ
  case move x => cases h; exact finN_pure hs rfl (hρ x (by simp))
  case assign x => cases h; exact finN_pure hs rfl (hρ x (by simp))
  case pick c a b =>
    have hc := hρ c (by simp)
    split at h
    · rename_i heq
      cases h
      rw [heq, VR] at hc
      exact finN_pure hs (by simp [hc, asBool]) (hρ a (by simp))
    · rename_i heq
      cases h
      rw [heq, VR] at hc
      exact finN_pure hs (by simp [hc, asBool]) (hρ b (by simp))
    · cases h
  case alloc t =>
    split at h
    · rename_i l hz
      split at h
      · rename_i k g1 hn
        cases h
        exact fin_next (alloc_instr hz hn hN hF hs)
      · cases h
    · cases h
  case box t x =>
    split at h
    · rename_i k g1 hn
      cases h
      exact fin_next (box_instr hn (hρ x (by simp)) hN hF hs)
    · cases h
  case build t parts =>
    split at h
    · rename_i v hb
      cases h
      exact fin_next (build_ok hb hρ hs)
    · cases h
  case buildSlice t len parts => exact fin_next (buildSlice_ok h hρ hN hF hs)
  case load t a => exact fin_next (load_ok h (hρ a (by simp)) hF hs)
  case store t a x =>
    obtain ⟨w', hr, rfl, st, sat⟩ := store_ok (P := P) h (hρ a (by simp)) (hρ x (by simp)) hF hs
    exact ⟨ι, undef, w', .inr ⟨by simp only [Sem.run_bind, hr, Result.andThen_ok, Sem.run_pure], rfl⟩, by rw [VR], st, sat⟩
  case nilCheck x =>
    have hx := hρ x (by simp)
    split at h
    · rename_i heq
      cases h
      rw [heq] at hx
      have hx' := hx
      rw [VR] at hx
      obtain ⟨b, e, _⟩ := hx
      rw [e] at hx' ⊢
      exact finN_pure hs rfl hx'
    · rename_i heq
      cases h
      rw [heq] at hx
      have hx' := hx
      rw [VR] at hx
      obtain ⟨vs, us, e, _⟩ := hx
      rw [e] at hx' ⊢
      exact finN_pure hs rfl hx'
    · rename_i heq
      cases h
      rw [heq, VR] at hx
      rw [hx]
      exact finN_pure hs rfl (by rw [VR])
    · rename_i heq
      cases h
      rw [heq, VR] at hx
      rw [hx]
      exact finN_pure hs rfl (by rw [VR])
    · cases h
  case binOp op t x y ty =>
    have hx := hρ x (by simp)
    have hy := hρ y (by simp)
    split at h
    · rename_i a b ha hb
      rw [ha, VR] at hx
      rw [hb, VR] at hy
      rw [hx, hy]
      exact fin_next (plain_ok h hs)
    · split at h
      · rename_i r g1 heq
        cases h
        obtain ⟨_, h1, _, st, sat⟩ := ownEq_ok heq hx hy hF hs x y
        exact fin_next ⟨ι, _, w, h1, by rw [VR], st, sat⟩
      · rename_i r g1 heq
        cases h
        obtain ⟨_, _, h1, st, sat⟩ := ownEq_ok heq hx hy hF hs x y
        exact fin_next ⟨ι, _, w, h1, by rw [VR], st, sat⟩
      · cases h
  case unOp op t x =>
    have hx := hρ x (by simp)
    split at h
    · rename_i a ha
      rw [ha, VR] at hx
      rw [hx]
      exact fin_next (plain_ok h hs)
    · cases h
  case convert src dst x => exact fin_next (convert_ok h (hρ x (by simp)) hN hF hs)
  case makeInterface t x =>
    have hx := hρ x (by simp)
    split at h
    · rename_i a ha
      rw [ha, VR] at hx
      rw [hx]
      exact fin_next (plain_ok h hs)
    · cases h
  case makeFunc fn first captured =>
    cases h
    refine fin_next (Fin.pure hs (v := .func fn (first.map ρ) (captured.map ρ)) rfl ?_)
    have := VR_mkFn (f := fn) (opnds_VRL first.toList (fun x hx => hρ x (by simp at hx ⊢; exact .inl hx))) (opnds_VRL captured.toList (fun x hx => hρ x (by simp at hx ⊢; exact .inr hx)))
    rw [show (first.toList.map ρ).toArray = first.map ρ by apply Array.toList_inj.1; simp, show (captured.toList.map ρ).toArray = captured.map ρ by apply Array.toList_inj.1; simp] at this
    exact this
  case makeSlice t l c => exact fin_next (makeSlice_ok h (hρ l (by simp)) (hρ c (by simp)) hN hF hs)
  case slice t x lo hi mx => exact fin_next (slice_ok h (hρ x (by simp)) (opnds'_OVR lo (fun y hy => hρ y (List.mem_cons_of_mem _ (List.mem_append_left _ hy)))) (opnds'_OVR hi (fun y hy => hρ y (List.mem_cons_of_mem _ (List.mem_append_right _ (List.mem_append_left _ hy))))) (opnds'_OVR mx (fun y hy => hρ y (List.mem_cons_of_mem _ (List.mem_append_right _ (List.mem_append_right _ hy))))) hs)
  case fieldAddr s x f =>
    split at h
    · rename_i v hv
      cases h
      exact fin_next (fieldAddr_ok hv (hρ x (by simp)) hs)
    · cases h
  case field t x f => exact fin_next (field_ok h (hρ x (by simp)) hs)
  case indexAddr t x i =>
    split at h
    · rename_i v hv
      cases h
      exact fin_next (indexAddr_ok hv (hρ x (by simp)) (hρ i (by simp)) hs)
    · cases h
  case index t x i =>
    have hx := hρ x (by simp)
    have hi := hρ i (by simp)
    split at h
    · rename_i a b ha hb
      rw [ha, VR] at hx
      rw [hb, VR] at hi
      rw [hx, hi]
      exact fin_next (plain_ok h hs)
    · rename_i l k j ha hb
      rw [ha] at hx
      rw [hb, VR] at hi
      rw [hi]
      split at h
      · rename_i len elem hu
        split at h
        · rename_i size hlt hn
          split at h
          · rename_i v hp
            cases h
            exact fin_next (index_agg_ok hu (by simpa [Nat.blt_eq] using hlt) hn hp hx hs)
          · cases h
        · cases h
      · cases h
    · cases h
  case makeMap t r =>
    split at h
    · exact fin_next (makeMap_ok h hN hF hs)
    · cases h
  case lookup t x i ok => exact fin_next (lookup_ok h (hρ x (by simp)) (hρ i (by simp)) hF hs)
  case mapUpdate t x i a =>
    obtain ⟨w', hr, rfl, st, sat⟩ := mapUpdate_ok (P := P) h (hρ x (by simp)) (hρ i (by simp)) (hρ a (by simp)) hF hs
    exact ⟨ι, undef, w', .inr ⟨by simp only [Sem.run_bind, hr, Result.andThen_ok, Sem.run_pure], rfl⟩, by rw [VR], st, sat⟩
  case insert t x i a =>
    obtain ⟨w', hr, rfl, st, sat⟩ := mapUpdate_ok (P := P) h (hρ x (by simp)) (hρ i (by simp)) (hρ a (by simp)) hF hs
    exact ⟨ι, undef, w', .inr ⟨by simp only [Sem.run_bind, hr, Result.andThen_ok, Sem.run_pure], rfl⟩, by rw [VR], st, sat⟩
  case range t x => exact fin_next (range_ok h (hρ x (by simp)) hN hF hs)
  case next x str =>
    split at h
    · exact fin_next (next_ok h (hρ x (by simp)) hF hs)
    · cases h
  case entry x => exact fin_next (entry_ok h (hρ x (by simp)) hF hs)
  case extract x i =>
    have hx := hρ x (by simp)
    split at h
    · rename_i a ha
      rw [ha, VR] at hx
      rw [hx]
      exact fin_next (plain_ok h hs)
    · rename_i l ha
      rw [ha] at hx
      split at h
      · rename_i v hg
        cases h
        exact fin_next (extract_ok hg hx hs)
      · cases h
    · cases h
  case call c =>
    have hargs := opnds_VRL (ι := ι) (tm := tm) (ρ := ρ) c.args.toList (fun x hx => by
      cases hcal : c.callee <;> rw [hcal] at hρ
      · exact hρ x (List.mem_cons_of_mem _ hx)
      · exact hρ x hx
      · exact hρ x hx)
    have e : c.args.map ρ = (c.args.toList.map ρ).toArray := by apply Array.toList_inj.1; simp
    split at h
    · rename_i b hc
      simp only [resolve, hc]
      rw [e]
      exact builtin_ok h hargs hN hF hs
    · rename_i f hc
      simp only [resolve, hc]
      rw [e]
      exact callee_ok hng h (hρ f (by rw [hc]; simp)) hargs hs
    · cases h
theorem plain_call {s : Sem Value} {f : Cl} {args : List AV} (h : plainR P s g = some (.call f args g')) : False := by
  unfold plainR at h
  split at h
  · rw [forceV_eq] at h; cases h
  · cases h
theorem evOp_call (hng : noNumG P = true) {tm : T AV} {o : Oper} {ρ : Operand → Value} {f : FuncId} {args : List AV} (hρ : ∀ x ∈ useOf o.op, VR ι (opnd tm x) (ρ x)) (h : evOp P tm o g = some (.call (.fn f) args g')) :
    g' = g ∧ ∃ us : List Value, VRL ι args us ∧ ∀ w, (execOp ρ o).run P w = .ok (.enter f us.toArray) w := by
  unfold evOp at h
  cases hop : o.op <;> rw [hop] at h hρ <;> simp only [reduceCtorEq] at h <;> simp only [useOf] at hρ
  case call c =>
    have hargs := opnds_VRL (ι := ι) (tm := tm) (ρ := ρ) c.args.toList (fun x hx => by
      cases hcal : c.callee <;> rw [hcal] at hρ
      · exact hρ x (List.mem_cons_of_mem _ hx)
      · exact hρ x hx
      · exact hρ x hx)
    have e : c.args.map ρ = (c.args.toList.map ρ).toArray := by apply Array.toList_inj.1; simp
    split at h
    · rename_i b hc
      exfalso
      clear hargs
      unfold evBuiltin evAppend evAppendTo evAppendN evCopy evUnsafeString evClear evDelete at h
      try simp only [forceNat_eq] at h
      repeat' split at h
      all_goals first
        | cases h; done
        | exact plain_call h
    · rename_i fv hc
      simp only [execOp, hop, resolve, hc]
      rw [e]
      exact callee_call hng h (hρ fv (by rw [hc]; simp)) hargs
    · cases h
  all_goals exfalso
  all_goals try unfold evLoad at h
  all_goals try unfold evStore at h
  all_goals try unfold evBuildSlice at h
  all_goals try unfold evConvert at h
  all_goals try unfold evMakeSlice at h
  all_goals try unfold evSlice at h
  all_goals try unfold evSliceA at h
  all_goals try unfold evField at h
  all_goals try unfold evLookup at h
  all_goals try unfold evMapUpdate at h
  all_goals try unfold evMakeMap at h
  all_goals try unfold evRangeM at h
  all_goals try unfold evNext at h
  all_goals try unfold evEntry at h
  all_goals try simp only [forceNat_eq] at h
  all_goals (repeat' split at h)
  all_goals first
    | (cases h; done)
    | exact plain_call h
theorem evOp_yield {tm : T AV} {o : Oper} {ρ : Operand → Value} {k : Nat} {args : List AV} (hρ : ∀ x ∈ useOf o.op, VR ι (opnd tm x) (ρ x)) (h : evOp P tm o g = some (.call (.yl k) args g')) :
    g' = g ∧ ∃ (us : List Value) (b : Nat), VRL ι args us ∧ (ι k).is b ∧ ∀ w, (execOp ρ o).run P w = (Instr.yield b us.toArray).run P w := by
  unfold evOp at h
  cases hop : o.op <;> rw [hop] at h hρ <;> simp only [reduceCtorEq] at h <;> simp only [useOf] at hρ
  case call c =>
    have hargs := opnds_VRL (ι := ι) (tm := tm) (ρ := ρ) c.args.toList (fun x hx => by
      cases hcal : c.callee <;> rw [hcal] at hρ
      · exact hρ x (List.mem_cons_of_mem _ hx)
      · exact hρ x hx
      · exact hρ x hx)
    have e : c.args.map ρ = (c.args.toList.map ρ).toArray := by apply Array.toList_inj.1; simp
    split at h
    · rename_i b hc
      exfalso
      clear hargs
      unfold evBuiltin evAppend evAppendTo evAppendN evCopy evUnsafeString evClear evDelete at h
      try simp only [forceNat_eq] at h
      repeat' split at h
      all_goals first
        | cases h; done
        | exact plain_call h
    · rename_i fv hc
      simp only [execOp, hop, resolve, hc]
      rw [e]
      exact callee_yield h (hρ fv (by rw [hc]; simp)) hargs
    · cases h
  all_goals exfalso
  all_goals try unfold evLoad at h
  all_goals try unfold evStore at h
  all_goals try unfold evBuildSlice at h
  all_goals try unfold evConvert at h
  all_goals try unfold evMakeSlice at h
  all_goals try unfold evSlice at h
  all_goals try unfold evSliceA at h
  all_goals try unfold evField at h
  all_goals try unfold evLookup at h
  all_goals try unfold evMapUpdate at h
  all_goals try unfold evMakeMap at h
  all_goals try unfold evRangeM at h
  all_goals try unfold evNext at h
  all_goals try unfold evEntry at h
  all_goals try simp only [forceNat_eq] at h
  all_goals (repeat' split at h)
  all_goals first
    | (cases h; done)
    | exact plain_call h
end
end Go.Proofs.YtjblkeofjkdpbaaGreatDoor.Eng
