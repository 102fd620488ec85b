/- All operations of the evaluator are the model's. Condition: no function of the program is runtime.NumGoroutine. -/
import Derived.Test.YtoifejinppjeeaaEngH
import Derived.OrdersIn
import Derived.LoopNIn
import Derived.RangeFuncCalls
import Derived.RangeFuncRecord
import Derived.TacticsIn
import Derived.Scope
namespace Go.Proofs.Ytoifejinppjeeaa.Eng
open Go Go.RowKit
set_option linter.unusedVariables false
set_option linter.unusedSimpArgs false
section
variable {P : Program} {N : Nat} {F : Nat → Prop} {g g' : G} {ι : Io} {w0 w : World}
theorem evOp_val (hng : noNumG P = true) {tm : T AV} {o : Oper} {ρ : Operand → Value} {av : AV} (hρ : ∀ x ∈ useOf o.op, VR ι (opnd tm x) (ρ x)) (h : evOp P tm o g = some (.val av g')) (hN : g'.n ≤ N) (hF : FOK F g') (hs : Sat N F g ι w0 w) :
    FinN P N F w0 (execOp ρ o) av g g' ι w := by
  unfold evOp at h
  cases hop : o.op <;> rw [hop] at h hρ <;> simp only [execOp, hop] <;> simp only [reduceCtorEq] at h <;> simp only [useOf] at hρ
  case move x => cases h; exact finN_pure hs rfl (hρ x (by simp))
  case assign x => cases h; exact finN_pure hs rfl (hρ x (by simp))
  case pick c a b =>
    have hc := hρ c (by simp)
    split at h
    · rename_i heq
      cases h
      rw [heq, VR] at hc
      exact finN_pure hs (by simp [hc, asBool]) (hρ a (by simp))
    · rename_i heq
      cases h
      rw [heq, VR] at hc
      exact finN_pure hs (by simp [hc, asBool]) (hρ b (by simp))
    · cases h
  case alloc t =>
    split at h
    · rename_i l hz
      split at h
      · rename_i k g1 hn
        cases h
        exact fin_next (alloc_instr hz hn hN hF hs)
      · cases h
    · cases h
  case box t x =>
    split at h
    · rename_i k g1 hn
      cases h
      exact fin_next (box_instr hn (hρ x (by simp)) hN hF hs)
    · cases h
  case build t parts =>
    split at h
    · rename_i v hb
      cases h
      exact fin_next (build_ok hb hρ hs)
    · cases h
  case buildSlice t len parts => exact fin_next (buildSlice_ok h hρ hN hF hs)
  case load t a => exact fin_next (load_ok h (hρ a (by simp)) hF hs)
  case store t a x =>
    obtain ⟨w', hr, rfl, st, sat⟩ := store_ok (P := P) h (hρ a (by simp)) (hρ x (by simp)) hF hs
    exact ⟨ι, undef, w', .inr ⟨by simp only [Sem.run_bind, hr, Result.andThen_ok, Sem.run_pure], rfl⟩, by rw [VR], st, sat⟩
  case nilCheck x =>
    have hx := hρ x (by simp)
    split at h
    · rename_i heq
      cases h
      rw [heq] at hx
      have hx' := hx
      rw [VR] at hx
      obtain ⟨b, e, _⟩ := hx
      rw [e] at hx' ⊢
      exact finN_pure hs rfl hx'
    · rename_i heq
      cases h
      rw [heq] at hx
      have hx' := hx
      rw [VR] at hx
      obtain ⟨vs, us, e, _⟩ := hx
      rw [e] at hx' ⊢
      exact finN_pure hs rfl hx'
    · rename_i heq
      cases h
      rw [heq, VR] at hx
      rw [hx]
      exact finN_pure hs rfl (by rw [VR])
    · rename_i heq
      cases h
      rw [heq, VR] at hx
      rw [hx]
      exact finN_pure hs rfl (by rw [VR])
    · cases h
  case binOp op t x y ty =>
    have hx := hρ x (by simp)
    have hy := hρ y (by simp)
    split at h
    · rename_i a b ha hb
      rw [ha, VR] at hx
      rw [hb, VR] at hy
      rw [hx, hy]
      exact fin_next (plain_ok h hs)
    · split at h
      · rename_i r g1 heq
        cases h
        obtain ⟨_, h1, _, st, sat⟩ := ownEq_ok heq hx hy hF hs x y
        exact fin_next ⟨ι, _, w, h1, by rw [VR], st, sat⟩
      · rename_i r g1 heq
        cases h
        obtain ⟨_, _, h1, st, sat⟩ := ownEq_ok heq hx hy hF hs x y
        exact fin_next ⟨ι, _, w, h1, by rw [VR], st, sat⟩
      · cases h
  case unOp op t x =>
    have hx := hρ x (by simp)
    split at h
    · rename_i a ha
      rw [ha, VR] at hx
      rw [hx]
      exact fin_next (plain_ok h hs)
    · cases h
  case convert src dst x => exact fin_next (convert_ok h (hρ x (by simp)) hN hF hs)
  case makeInterface t x =>
    have hx := hρ x (by simp)
    split at h
    · rename_i a ha
      rw [ha, VR] at hx
      rw [hx]
      exact fin_next (plain_ok h hs)
    · cases h
  case makeFunc fn first captured =>
    cases h
    refine fin_next (Fin.pure hs (v := .func fn (first.map ρ) (captured.map ρ)) rfl ?_)
    have := VR_mkFn (f := fn) (opnds_VRL first.toList (fun x hx => hρ x (by simp at hx ⊢; exact .inl hx))) (opnds_VRL captured.toList (fun x hx => hρ x (by simp at hx ⊢; exact .inr hx)))
    rw [show (first.toList.map ρ).toArray = first.map ρ by apply Array.toList_inj.1; simp, show (captured.toList.map ρ).toArray = captured.map ρ by apply Array.toList_inj.1; simp] at this
    exact this
  case makeSlice t l c => exact fin_next (makeSlice_ok h (hρ l (by simp)) (hρ c (by simp)) hN hF hs)
  case slice t x lo hi mx => exact fin_next (slice_ok h (hρ x (by simp)) (opnds'_OVR lo (fun y hy => hρ y (List.mem_cons_of_mem _ (List.mem_append_left _ hy)))) (opnds'_OVR hi (fun y hy => hρ y (List.mem_cons_of_mem _ (List.mem_append_right _ (List.mem_append_left _ hy))))) (opnds'_OVR mx (fun y hy => hρ y (List.mem_cons_of_mem _ (List.mem_append_right _ (List.mem_append_right _ hy))))) hs)
  case fieldAddr s x f =>
    split at h
    · rename_i v hv
      cases h
      exact fin_next (fieldAddr_ok hv (hρ x (by simp)) hs)
    · cases h
  case field t x f => exact fin_next (field_ok h (hρ x (by simp)) hs)
  case indexAddr t x i =>
    split at h
    · rename_i v hv
      cases h
      exact fin_next (indexAddr_ok hv (hρ x (by simp)) (hρ i (by simp)) hs)
    · cases h
  case index t x i =>
    have hx := hρ x (by simp)
    have hi := hρ i (by simp)
    split at h
    · rename_i a b ha hb
      rw [ha, VR] at hx
      rw [hb, VR] at hi
      rw [hx, hi]
      exact fin_next (plain_ok h hs)
    · rename_i l k j ha hb
      rw [ha] at hx
      rw [hb, VR] at hi
      rw [hi]
      split at h
      · rename_i len elem hu
        split at h
        · rename_i size hlt hn
          split at h
          · rename_i v hp
            cases h
            exact fin_next (index_agg_ok hu (by simpa [Nat.blt_eq] using hlt) hn hp hx hs)
          · cases h
        · cases h
      · cases h
    · cases h
  case extract x i =>
    have hx := hρ x (by simp)
    split at h
    · rename_i a ha
      rw [ha, VR] at hx
      rw [hx]
      exact fin_next (plain_ok h hs)
    · rename_i l ha
      rw [ha] at hx
      split at h
      · rename_i v hg
        cases h
        exact fin_next (extract_ok hg hx hs)
      · cases h
    · cases h
  case call c =>
    have hargs := opnds_VRL (ι := ι) (tm := tm) (ρ := ρ) c.args.toList (fun x hx => by
      cases hcal : c.callee <;> rw [hcal] at hρ
      · exact hρ x (List.mem_cons_of_mem _ hx)
      · exact hρ x hx
      · exact hρ x hx)
    have e : c.args.map ρ = (c.args.toList.map ρ).toArray := by apply Array.toList_inj.1; simp
    split at h
    · rename_i b hc
      simp only [resolve, hc]
      rw [e]
      exact builtin_ok h hargs hN hF hs
    · rename_i f hc
      simp only [resolve, hc]
      rw [e]
      exact callee_ok hng h (hρ f (by rw [hc]; simp)) hargs hs
    · cases h
theorem plain_call {s : Sem Value} {f : Cl} {args : List AV} (h : plainR P s g = some (.call f args g')) : False := by
  unfold plainR at h
  split at h
  · rw [forceV_eq] at h; cases h
  · cases h
theorem evOp_call (hng : noNumG P = true) {tm : T AV} {o : Oper} {ρ : Operand → Value} {f : FuncId} {args : List AV} (hρ : ∀ x ∈ useOf o.op, VR ι (opnd tm x) (ρ x)) (h : evOp P tm o g = some (.call (.fn f) args g')) :
    g' = g ∧ ∃ us : List Value, VRL ι args us ∧ ∀ w, (execOp ρ o).run P w = .ok (.enter f us.toArray) w := by
  unfold evOp at h
  cases hop : o.op <;> rw [hop] at h hρ <;> simp only [reduceCtorEq] at h <;> simp only [useOf] at hρ
  case call c =>
    have hargs := opnds_VRL (ι := ι) (tm := tm) (ρ := ρ) c.args.toList (fun x hx => by
      cases hcal : c.callee <;> rw [hcal] at hρ
      · exact hρ x (List.mem_cons_of_mem _ hx)
      · exact hρ x hx
      · exact hρ x hx)
    have e : c.args.map ρ = (c.args.toList.map ρ).toArray := by apply Array.toList_inj.1; simp
    split at h
    · rename_i b hc
      exfalso
      clear hargs
      unfold evBuiltin evAppend evAppendTo evCopy evUnsafeString at h
      repeat' split at h
      all_goals first
        | cases h; done
        | exact plain_call h
    · rename_i fv hc
      simp only [execOp, hop, resolve, hc]
      rw [e]
      exact callee_call hng h (hρ fv (by rw [hc]; simp)) hargs
    · cases h
  all_goals exfalso
  all_goals try unfold evLoad at h
  all_goals try unfold evStore at h
  all_goals try unfold evBuildSlice at h
  all_goals try unfold evConvert at h
  all_goals try unfold evMakeSlice at h
  all_goals try unfold evSlice at h
  all_goals try unfold evSliceA at h
  all_goals try unfold evField at h
  all_goals (repeat' split at h)
  all_goals first
    | (cases h; done)
    | exact plain_call h
theorem evOp_yield {tm : T AV} {o : Oper} {ρ : Operand → Value} {k : Nat} {args : List AV} (hρ : ∀ x ∈ useOf o.op, VR ι (opnd tm x) (ρ x)) (h : evOp P tm o g = some (.call (.yl k) args g')) :
    g' = g ∧ ∃ (us : List Value) (b : Nat), VRL ι args us ∧ (ι k).is b ∧ ∀ w, (execOp ρ o).run P w = (Instr.yield b us.toArray).run P w := by
  unfold evOp at h
  cases hop : o.op <;> rw [hop] at h hρ <;> simp only [reduceCtorEq] at h <;> simp only [useOf] at hρ
  case call c =>
    have hargs := opnds_VRL (ι := ι) (tm := tm) (ρ := ρ) c.args.toList (fun x hx => by
      cases hcal : c.callee <;> rw [hcal] at hρ
      · exact hρ x (List.mem_cons_of_mem _ hx)
      · exact hρ x hx
      · exact hρ x hx)
    have e : c.args.map ρ = (c.args.toList.map ρ).toArray := by apply Array.toList_inj.1; simp
    split at h
    · rename_i b hc
      exfalso
      clear hargs
      unfold evBuiltin evAppend evAppendTo evCopy evUnsafeString at h
      repeat' split at h
      all_goals first
        | cases h; done
        | exact plain_call h
    · rename_i fv hc
      simp only [execOp, hop, resolve, hc]
      rw [e]
      exact callee_yield h (hρ fv (by rw [hc]; simp)) hargs
    · cases h
  all_goals exfalso
  all_goals try unfold evLoad at h
  all_goals try unfold evStore at h
  all_goals try unfold evBuildSlice at h
  all_goals try unfold evConvert at h
  all_goals try unfold evMakeSlice at h
  all_goals try unfold evSlice at h
  all_goals try unfold evSliceA at h
  all_goals try unfold evField at h
  all_goals (repeat' split at h)
  all_goals first
    | (cases h; done)
    | exact plain_call h
end
end Go.Proofs.Ytoifejinppjeeaa.Eng
namespace Go.Proofs.Ytoifejinppjeeaa.Eng
open Go Go.RowKit
set_option linter.unusedVariables false
set_option linter.unusedSimpArgs false
/-- Names only come; the log only grows; what the log has not written stands. -/
structure Mono (g g' : G) : Prop where
  n : g.n ≤ g'.n
  thr : g'.thr = g.thr
  rd : ∀ k ∈ g.rd, k ∈ g'.rd
  wr : ∀ k ∈ g.wr, k ∈ g'.wr
  rlt : ∀ k ∈ g'.rd, k ∈ g.rd ∨ k < g.thr
  wrd : ∀ k ∈ g'.wr, k ∈ g.wr ∨ k ∈ g'.rd
  habs : ∀ k, k < g.n → ¬ Wr g' k → g'.H.get k = g.H.get k
  dom : g.thr ≤ g.n → (∀ k l, g.H.get k = some l → k < g.n) → ∀ k l, g'.H.get k = some l → k < g'.n
theorem Mono.refl (g : G) : Mono g g := ⟨Nat.le_refl _, rfl, fun _ h => h, fun _ h => h, fun _ h => .inl h, fun _ h => .inl h, fun _ _ _ => rfl, fun _ h => h⟩
theorem Mono.tr {a b c : G} (h : Mono a b) (k : Mono b c) : Mono a c where
  n := Nat.le_trans h.n k.n
  thr := k.thr.trans h.thr
  rd := fun i hi => k.rd i (h.rd i hi)
  wr := fun i hi => k.wr i (h.wr i hi)
  rlt := fun i hi => by
    rcases k.rlt i hi with e | e
    · exact h.rlt i e
    · exact .inr (by rw [← h.thr]; exact e)
  wrd := fun i hi => by
    rcases k.wrd i hi with e | e
    · rcases h.wrd i e with e | e
      · exact .inl e
      · exact .inr (k.rd i e)
    · exact .inr e
  habs := fun i hi hw => (k.habs i (Nat.lt_of_lt_of_le hi h.n) hw).trans (h.habs i hi fun e => hw (e.of k.thr k.wr))
  dom := fun ht hd => k.dom (by rw [h.thr]; exact Nat.le_trans ht h.n) (h.dom ht hd)
theorem Mono.fok {g g' : G} {F : Nat → Prop} (h : Mono g g') (k : FOK F g') : FOK F g := ⟨fun i hi => k.1 i (h.rd i hi), fun i hi => k.2.1 i (h.wr i hi), fun i hi => k.2.2 i (by rw [h.thr]; exact hi)⟩
theorem Mono.read {g g' : G} {k : Nat} {l : Row} (h : g.read k = some (l, g')) : Mono g g' := by
  unfold G.read at h
  split at h
  · cases h
  · split at h
    · cases h
    split at h
    · rename_i hlt
      cases h
      refine ⟨Nat.le_refl _, rfl, fun i hi => by simp [hi], fun i hi => hi, fun i hi => ?_, fun i hi => .inl hi, fun _ _ _ => rfl, fun _ h => h⟩
      rcases List.mem_cons.1 hi with rfl | hi
      · exact .inr (by simpa [Nat.blt_eq] using hlt)
      · exact .inl hi
    · cases h
      exact Mono.refl _
theorem Mono.readX {g g' : G} {k : Nat} {a : AV} (h : g.readX k = some (a, g')) : Mono g g' := by
  unfold G.readX at h
  split at h
  · cases h
  · split at h
    · split at h
      · rename_i hlt
        cases h
        refine ⟨Nat.le_refl _, rfl, fun i hi => by simp [hi], fun i hi => hi, fun i hi => ?_, fun i hi => .inl hi, fun _ _ _ => rfl, fun _ h => h⟩
        rcases List.mem_cons.1 hi with rfl | hi
        · exact .inr (by simpa [Nat.blt_eq] using hlt)
        · exact .inl hi
      · cases h
        exact Mono.refl _
    · cases h
theorem Mono.write {g g' : G} {k : Nat} {o : Option Row} (h : g.write k o = some g') : Mono g g' := by
  unfold G.write at h
  split at h
  · cases h
  · rename_i H hH
    have hget := T.set_get _ _ _ _ _ hH
    split at h
    · rename_i hlt
      have hlt' : k < g.thr := by simpa [Nat.blt_eq] using hlt
      cases h
      refine ⟨Nat.le_refl _, rfl, fun i hi => by simp [hi], fun i hi => by simp [hi], fun i hi => ?_, fun i hi => ?_, fun i hi hw => ?_, fun ht hd i l hl => ?_⟩
      · rcases List.mem_cons.1 hi with rfl | hi
        · exact .inr hlt'
        · exact .inl hi
      · rcases List.mem_cons.1 hi with rfl | hi
        · exact .inr (by simp)
        · exact .inl hi
      · show H.get i = _
        rw [hget, if_neg (fun e : i = k => hw (.inl (by simp [e])))]
      · change H.get i = _ at hl
        rw [hget] at hl
        split at hl
        · rename_i e; subst e; exact Nat.lt_of_lt_of_le hlt' ht
        · exact hd i l hl
    · rename_i hlt
      have hge : g.thr ≤ k := by
        rcases Nat.lt_or_ge k g.thr with e | e
        · rw [show Nat.blt k g.thr = true by simpa [Nat.blt_eq] using e] at hlt; cases hlt
        · exact e
      split at h
      · rename_i hn
        have hn' : k < g.n := by simpa [Nat.blt_eq] using hn
        cases h
        refine ⟨Nat.le_refl _, rfl, fun i hi => hi, fun i hi => hi, fun i hi => .inl hi, fun i hi => .inl hi, fun i hi hw => ?_, fun ht hd i l hl => ?_⟩
        · show H.get i = _
          rw [hget, if_neg (fun e : i = k => hw (.inr (by rw [e]; exact hge)))]
        · change H.get i = _ at hl
          rw [hget] at hl
          split at hl
          · rename_i e; subst e; exact hn'
          · exact hd i l hl
      · cases h
theorem Mono.new {g g' : G} {k : Nat} {l : Row} (h : g.new l = some (k, g')) : Mono g g' := by
  unfold G.new at h
  split at h
  · cases h
  · rename_i H hH
    have hget := T.set_get _ _ _ _ _ hH
    rw [forceNat_eq] at h
    cases h
    refine ⟨Nat.le_succ _, rfl, fun i hi => hi, fun i hi => hi, fun i hi => .inl hi, fun i hi => .inl hi, fun i hi hw => ?_, fun ht hd i l hl => ?_⟩
    · show H.get i = _
      rw [hget, if_neg (by omega)]
    · change H.get i = _ at hl
      rw [hget] at hl
      show i < g.n + 1
      split at hl
      · omega
      · have := hd i l hl; omega
theorem Mono.newL {g g' : G} {ty : Nat} {ex : Bool} {k : Nat} {l : List AV} (h : g.newL ty ex l = some (k, g')) : Mono g g' := by
  obtain ⟨_, _, _, h1, _⟩ := newL_some h
  exact Mono.new h1
theorem Mono.cells {g g' : G} {size n : Nat} {a : AV} {cs : List AV} (h : cellsOf size a n g = some (cs, g')) : Mono g g' := by
  unfold cellsOf at h
  split at h
  · split at h
    · split at h
      · rename_i hr
        split at h
        · cases h; exact .read hr
        · cases h
      · cases h
    · cases h
  · split at h <;> cases h
    exact Mono.refl _
  · split at h <;> cases h
    exact Mono.refl _
  · split at h <;> cases h
    exact Mono.refl _
  · cases h
theorem Mono.grow {g g' : G} {elem size k len sz : Nat} {new : List AV} {row : Row} (hw : growRow elem size k len sz new g = some (row, g')) : Mono g g' := by
  obtain ⟨_, _, hr, _⟩ := growRow_ok hw
  exact Mono.read hr
section
variable {P : Program} {g g' : G}
theorem Mono.plain {s : Sem Value} {av : AV} (h : plainR P s g = some (.val av g')) : Mono g g' := by
  unfold plainR at h
  split at h
  · rw [forceV_eq] at h
    cases h
    exact Mono.refl _
  · cases h
theorem Mono.appendTo {elem size m : Nat} {s av : AV} {new : List AV} (h : evAppendTo elem size m s new g = some (.val av g')) : Mono g g' := by
  unfold evAppendTo at h
  repeat' split at h
  all_goals first
    | (cases h; done)
    | (cases h; first
        | exact Mono.refl _
        | exact Mono.newL (by assumption)
        | exact (Mono.read (by assumption)).tr (Mono.write (by assumption))
        | exact (Mono.cells (by assumption)).tr (Mono.newL (by assumption))
        | exact ((Mono.grow (by assumption)).tr (Mono.write (by assumption))).tr (Mono.new (by assumption)))
theorem Mono.ownEq {t : TypeId} {a b : AV} {r : Bool} (h : Eng.ownEq P t a b g = some (r, g')) : Mono g g' := by
  unfold Eng.ownEq at h
  repeat' split at h
  all_goals first
    | (cases h; done)
    | (cases h; first
        | exact Mono.refl _
        | exact Mono.read (by assumption))
theorem Mono.evCall {f : AV} {args : List AV} {av : AV} (h : evCall_ P f args g = some (.val av g')) : Mono g g' := by
  unfold evCall_ at h
  repeat' split at h
  all_goals try rw [forceV_eq] at h
  all_goals first
    | (cases h; done)
    | (cases h; exact Mono.refl _)
theorem Mono.evBuiltin {b : Builtin} {ts : Array TypeId} {type : TypeId} {args : List AV} {av : AV} (h : evBuiltin P b ts type args g = some (.val av g')) : Mono g g' := by
  unfold Eng.evBuiltin evAppend evCopy evUnsafeString at h
  repeat' split at h
  all_goals first
    | (cases h; done)
    | exact Mono.plain h
    | exact (Mono.cells (by assumption)).tr (Mono.appendTo h)
    | (cases h; first
        | exact Mono.refl _
        | exact Mono.cells (by assumption)
        | exact (Mono.read (by assumption)).tr (Mono.write (by assumption))
        | exact ((Mono.cells (by assumption)).tr (Mono.read (by assumption))).tr (Mono.write (by assumption)))
theorem evOp_mono {tm : T AV} {o : Oper} {av : AV} (h : evOp P tm o g = some (.val av g')) : Mono g g' := by
  unfold evOp at h
  cases hop : o.op <;> rw [hop] at h <;> simp only [reduceCtorEq] at h
  case call c =>
    split at h
    · exact .evBuiltin h
    · exact .evCall h
    · cases h
  all_goals try unfold evLoad at h
  all_goals try unfold evStore at h
  all_goals try unfold evBuildSlice at h
  all_goals try unfold evConvert at h
  all_goals try unfold evMakeSlice at h
  all_goals try unfold evSlice at h
  all_goals try unfold evSliceA at h
  all_goals try unfold evField at h
  all_goals (repeat' split at h)
  all_goals first
    | (cases h; done)
    | exact Mono.plain h
    | (cases h; first
        | exact Mono.refl _
        | exact Mono.newL (by assumption)
        | exact Mono.new (by assumption)
        | exact Mono.ownEq (by assumption)
        | exact Mono.cells (by assumption)
        | exact (Mono.read (by assumption)).tr (Mono.write (by assumption))
        | exact Mono.read (by assumption))
end
/-- Before a call memory stands. -/
theorem evOp_callg {P : Program} {g g' : G} {tm : T AV} {o : Oper} {f : Cl} {args : List AV} (h : evOp P tm o g = some (.call f args g')) : g' = g := by
  unfold evOp at h
  cases hop : o.op <;> rw [hop] at h <;> simp only [reduceCtorEq] at h
  case call c =>
    split at h
    · exfalso
      unfold evBuiltin evAppend evAppendTo evCopy evUnsafeString at h
      repeat' split at h
      all_goals first
        | cases h; done
        | exact plain_call h
    · unfold evCall_ at h
      repeat' split at h
      all_goals try rw [forceV_eq] at h
      all_goals first
        | (cases h; done)
        | (cases h; rfl)
    · cases h
  all_goals exfalso
  all_goals try unfold evLoad at h
  all_goals try unfold evStore at h
  all_goals try unfold evBuildSlice at h
  all_goals try unfold evConvert at h
  all_goals try unfold evMakeSlice at h
  all_goals try unfold evSlice at h
  all_goals try unfold evSliceA at h
  all_goals try unfold evField at h
  all_goals (repeat' split at h)
  all_goals first
    | (cases h; done)
    | exact plain_call h
/-- An operation that the evaluator knows is no 'defer'. -/
theorem evOp_nodefer {P : Program} {g : G} {tm : T AV} {o : Oper} {r : OpR} (h : evOp P tm o g = some r) : ∀ c, o.op ≠ .defer c := fun c e => by
  unfold evOp at h
  rw [e] at h
  cases h
/-- The wide fence, in a round or not. -/
def FW (ro : Option Nat) : Fence := { Fence.wide with round := ro }
theorem semAt_FW {P : Program} {g : G} {tm : T AV} {o : Oper} {r : OpR} {ρ : Operand → Value} {ro : Option Nat} (h : evOp P tm o g = some r) : Oper.semAt (FW ro).round ρ o = execOp ρ o := by
  cases ro with
  | none => rfl
  | some l => exact Oper.semAt_some l ρ o (evOp_nodefer h)
/-- Temporaries. -/
structure TR (ι : Io) (Nt : Nat) (ds : List Deferred) (tm : T AV) (a : Act) : Prop where
  size : a.tmps.size = Nt
  defers : a.defers = ds
  rel : ∀ t, VR ι (opnd tm (.tmp t)) (a.eval (.tmp t))
theorem TR.all {ι : Io} {Nt : Nat} {ds : List Deferred} {tm : T AV} {a : Act} (h : TR ι Nt ds tm a) : ∀ x, VR ι (opnd tm x) (a.eval x)
  | .tmp t => h.rel t
  | .const x => by rw [opnd, VR]; rfl
  | .global x => by rw [opnd, VR]; rfl
  | .func x => by rw [opnd, VR]; rfl
theorem TR.mono {ι ι' : Io} {Nt : Nat} {ds : List Deferred} {tm : T AV} {a : Act} (h : TR ι Nt ds tm a) (hl : Le ι ι') : TR ι' Nt ds tm a := ⟨h.size, h.defers, fun t => (h.rel t).mono hl⟩
theorem opnd_some {tm : T AV} {t : Tmp} {a : AV} (h : tm.get t = some a) : opnd tm (.tmp t) = a := by simp only [opnd, h]
theorem opnd_eq {tm tm' : T AV} {t : Tmp} (h : tm'.get t = tm.get t) : opnd tm' (.tmp t) = opnd tm (.tmp t) := by simp only [opnd, h]
theorem TR.put {ι : Io} {Nt : Nat} {ds : List Deferred} {tm tm' : T AV} {a : Act} {dst : Option Tmp} {av : AV} {v : Value} (h : TR ι Nt ds tm a) (hv : VR ι av v) (hp : putT Nt tm dst av = some tm') : TR ι Nt ds tm' (a.put dst v) := by
  rw [putT_eq] at hp
  split at hp
  · cases hp
    exact h
  · rename_i d
    split at hp
    · rename_i hd
      have hd' : d < Nt := by simpa [Nat.blt_eq] using hd
      have hget := T.set_get _ _ _ _ _ hp
      refine ⟨by simp [Act.put, h.size], h.defers, fun t => ?_⟩
      have hg := hget t
      show VR ι (opnd tm' (.tmp t)) ((a.tmps.setIfInBounds d v).getD t undef)
      by_cases e : t = d
      · subst e
        rw [if_pos rfl] at hg
        have : t < a.tmps.size := by rw [h.size]; exact hd'
        rw [opnd_some hg]
        simp [this, hv]
      · rw [if_neg e] at hg
        rw [opnd_eq hg]
        have e2 : (a.tmps.setIfInBounds d v).getD t undef = a.tmps.getD t undef := by simp [Array.getElem?_setIfInBounds, Ne.symm e]
        rw [e2]
        exact h.rel t
    · cases hp
/-- The temporaries that an operation looks at are related. -/
def UR (ι : Io) (ops : List Oper) (o : Oper) (tm : T AV) (a : Act) : Prop := ∀ t ∈ usesT ops o, VR ι (opnd tm (.tmp t)) (a.eval (.tmp t))
theorem mem_tmpOf {t : Nat} : ∀ {l : List Operand}, Operand.tmp t ∈ l → t ∈ tmpOf l
  | x :: l, h => by
    rcases List.mem_cons.1 h with rfl | h
    · simp [tmpOf]
    · have ih := mem_tmpOf h
      cases x <;> simp [tmpOf, ih]
theorem UR.use {ι : Io} {ops : List Oper} {o : Oper} {tm : T AV} {a : Act} (h : UR ι ops o tm a) : ∀ x ∈ useOf o.op, VR ι (opnd tm x) (a.eval x) := fun x hx => by
  cases x with
  | tmp t =>
    refine h t ?_
    have := mem_tmpOf hx
    unfold usesT
    repeat' split
    all_goals simp [this]
  | const x => rw [opnd, VR]; rfl
  | global x => rw [opnd, VR]; rfl
  | func x => rw [opnd, VR]; rfl
theorem UR.guard {ι : Io} {ops : List Oper} {o p : Oper} {tm : T AV} {a : Act} {j d : Nat} {b : Bool} (h : UR ι ops o tm a) (hg : o.guard = some (j, b)) (hp : getL ops j = some p) (hd : p.dst = some d) : VR ι (opnd tm (.tmp d)) (a.eval (.tmp d)) := by
  refine h d ?_
  unfold usesT
  simp [hg, hp, hd]
theorem TR.uses {ι : Io} {Nt : Nat} {ds : List Deferred} {ops : List Oper} {o : Oper} {tm : T AV} {a : Act} (h : TR ι Nt ds tm a) : UR ι ops o tm a := fun t _ => h.rel t
theorem wanted_ok {ι : Io} {ops : List Oper} {tm : T AV} {a : Act} {o : Oper} {b : Bool} (h : wantedA ops tm o = some b) (ht : UR ι ops o tm a) : Region.wanted o (yielded ops.toArray a.tmps) = b := by
  unfold wantedA at h
  unfold Region.wanted
  split at h
  · rename_i hg
    cases h
    rw [hg]
  · rename_i j want hg
    rw [hg]
    dsimp only
    split at h
    · rename_i p hp0
      have hp := hp0
      rw [getL_eq] at hp
      split at h
      · rename_i d hd
        have hrel := ht.guard hg hp0 hd
        split at h
        · rename_i b' hb
          rw [opnd_some hb, VR] at hrel
          have hv : a.tmps[d]? = some (.bool b') := by
            change a.tmps.getD d undef = _ at hrel
            rw [Array.getD_eq_getD_getElem?] at hrel
            cases e : a.tmps[d]? with
            | none => rw [e] at hrel; cases hrel
            | some v => rw [e] at hrel; simp at hrel; rw [hrel]
          have hy : yielded ops.toArray a.tmps j = some b' := by
            unfold yielded
            simp [hp, hd, hv]
          rw [hy]
          cases b' <;> cases want <;> simp at h <;> subst h <;> rfl
        · rename_i vs hb
          cases h
          rw [opnd_some hb, VR] at hrel
          change a.tmps.getD d undef = _ at hrel
          rw [Array.getD_eq_getD_getElem?] at hrel
          have hy : yielded ops.toArray a.tmps j = none := by
            unfold yielded
            cases e : a.tmps[d]? with
            | none => simp [hp, hd, e]
            | some v =>
              rw [e] at hrel
              simp at hrel
              subst hrel
              simp [hp, hd, e]
          rw [hy]; rfl
        · cases h
      · cases h
    · cases h
/-- A call's evaluation is the model's. -/
def Post (N : Nat) (F : Nat → Prop) (w0 : World) (av : AV) (g g' : G) (ι : Io) (w : World) : Ending → World → Prop := fun e w' => ∃ ι' v, e = .returned v ∧ VR ι' av v ∧ Step g g' ι ι' w w' ∧ Sat N F g' ι' w0 w'
/-- The call as the model carries it out: a function, a round. -/
def Ran (P : Program) (ι : Io) (w : World) (vs : List Value) (R : Ending → World → Prop) : Cl → Prop
  | .fn f => CallsIn Fence.wide 0 P f vs.toArray w R
  | .yl k => ∀ b, (ι k).is b → ∃ fn tmps asg bd, (Instr.yield b vs.toArray).run P w = .ok (.round b fn tmps asg bd) w ∧ RoundIn Fence.wide 0 P b fn tmps asg bd w R
def CallOK (P : Program) (call : Cl → List AV → G → Option (AV × G)) : Prop :=
  ∀ c args g av g', call c args g = some (av, g') → Mono g g' ∧ ∀ N F w0 ι w (vs : List Value), g'.n ≤ N → FOK F g' → Sat N F g ι w0 w → g.thr ≤ g.n → VRL ι args vs → Ran P ι w vs (Post N F w0 av g g' ι w) c
section
variable {P : Program} {N Nt : Nat} {F : Nat → Prop} {g g' : G} {ι : Io} {w0 w : World} {call : Cl → List AV → G → Option (AV × G)}
theorem evOne_mono (hc : CallOK P call) {ops : List Oper} {tm : T AV} {o : Oper} {av : AV} (h : evOne P call ops tm o g = some (av, g')) : Mono g g' := by
  unfold evOne at h
  split at h
  · split at h
    · rename_i ho
      cases h
      exact evOp_mono ho
    · rename_i f args g1 ho
      have e : g1 = g := evOp_callg ho
      subst e
      exact (hc _ _ _ _ _ h).1
    · cases h
  · cases h; exact Mono.refl _
  · cases h
theorem evOne_ok (hng : noNumG P = true) (hc : CallOK P call) {ro : Option Nat} {ops : List Oper} {tm : T AV} {o : Oper} {av : AV} {a : Act} {K : Act → World → Prop} {Q : Exit → Act → World → Prop} (h : evOne P call ops tm o g = some (av, g'))
    (ht : UR ι ops o tm a) (hN : g'.n ≤ N) (hF : FOK F g') (hs : Sat N F g ι w0 w) (hthr : g.thr ≤ g.n)
    (hK : ∀ ι' v w', VR ι' av v → Step g g' ι ι' w w' → Sat N F g' ι' w0 w' → K (a.put o.dst v) w') :
    if Region.wanted o (yielded ops.toArray a.tmps) = true then o.wpIn (FW ro) 0 P a w K Q else K (a.put o.dst undef) w := by
  unfold evOne at h
  split at h
  · rename_i hw
    rw [wanted_ok hw ht, if_pos rfl]
    refine ⟨fun _ _ => trivial, ?_⟩
    split at h
    · rename_i av1 g1 ho
      rw [semAt_FW ho]
      cases h
      obtain ⟨ι', v, w', hr, hv, st, sat⟩ := evOp_val hng ht.use ho hN hF hs
      rcases hr with hr | ⟨hr, rfl⟩
      · rw [hr]
        exact hK ι' v w' hv st sat
      · rw [hr]
        exact hK ι' undef w' hv st sat
    · rename_i c args g1 ho
      rw [semAt_FW ho]
      obtain rfl : g1 = g := evOp_callg ho
      cases c with
      | fn f =>
        obtain ⟨_, us, hu, hr⟩ := evOp_call hng ht.use ho
        rw [hr w]
        refine ⟨fun h => (by cases h), ?_⟩
        have hcall : CallsIn Fence.wide 0 P f us.toArray w (Post N F w0 av g1 g' ι w) := (hc _ _ _ _ _ h).2 N F w0 ι w us hN hF hs hthr hu
        refine CallsIn.mono (F := FW ro) hcall ?_
        rintro e w' ⟨ι', v, rfl, hv, st, sat⟩
        exact hK ι' v w' hv st sat
      | yl k =>
        obtain ⟨_, us, b, hu, hb, hr⟩ := evOp_yield ht.use ho
        rw [hr w]
        obtain ⟨fn, tmps, asg, bd, hy, hrd⟩ := (hc _ _ _ _ _ h).2 N F w0 ι w us hN hF hs hthr hu b hb
        rw [hy]
        refine ⟨fun h => (by cases h), ?_⟩
        refine RoundIn.mono (F := FW ro) hrd ?_
        rintro e w' ⟨ι', v, rfl, hv, st, sat⟩
        exact hK ι' v w' hv st sat
    · cases h
  · rename_i hw
    rw [wanted_ok hw ht, if_neg (by simp)]
    cases h
    exact hK ι undef w (by rw [VR]) (Step.refl _ _ _) hs
  · cases h
theorem evOps_mono (hc : CallOK P call) {ops : List Oper} : ∀ (os : List Oper) {g g' : G} {tm tm' : T AV}, evOps P call Nt ops os tm g = some (tm', g') → Mono g g'
  | [], g, g', tm, tm', h => by simp [evOps] at h; rw [h.2]; exact Mono.refl _
  | o :: os, g, g', tm, tm', h => by
    simp only [evOps] at h
    split at h
    · rename_i av g1 ho
      split at h
      · exact (evOne_mono hc ho).tr (evOps_mono hc os h)
      · cases h
    · cases h
theorem evOps_ok (hng : noNumG P = true) (hc : CallOK P call) {ro : Option Nat} {ds : List Deferred} {ops : List Oper} {Q : Exit → Act → World → Prop} {tm' : T AV} (hN : g'.n ≤ N) (hF : FOK F g') :
    ∀ (os : List Oper) (i : Nat) {g : G} {tm : T AV} {ι : Io} {w : World} {a : Act}, (∀ j, ops[i + j]? = os[j]?) → evOps P call Nt ops os tm g = some (tm', g') → TR ι Nt ds tm a → Sat N F g ι w0 w → g.thr ≤ g.n →
      (∀ ι' a' w', TR ι' Nt ds tm' a' → Step g g' ι ι' w w' → Sat N F g' ι' w0 w' → Q .normal a' w') → wpOpsIn (FW ro) 0 P ops.toArray Q (List.range' i os.length) a w
  | [], i, g, tm, ι, w, a, hi, h, ht, hs, hthr, hQ => by
    simp [evOps] at h
    obtain ⟨rfl, rfl⟩ := h
    exact hQ ι a w ht (Step.refl _ _ _) hs
  | o :: os, i, g, tm, ι, w, a, hi, h, ht, hs, hthr, hQ => by
    simp only [evOps] at h
    split at h
    · rename_i av g1 ho
      split at h
      · rename_i tm1 hput
        have hm := evOps_mono hc os h
        have ho' : ops[i]? = some o := by have := hi 0; simpa using this
        rw [List.length_cons, List.range'_succ, wpOpsIn_cons]
        unfold wpOpIn
        rw [show ops.toArray[i]? = some o by simpa using ho']
        dsimp only
        have := evOne_ok (ro := ro) (K := wpOpsIn (FW ro) 0 P ops.toArray Q (List.range' (i + 1) os.length)) (Q := Q) hng hc ho ht.uses (Nat.le_trans hm.n hN) (hm.fok hF) hs hthr (fun ι' v w' hv st sat => by
          exact evOps_ok hng hc hN hF os (i + 1) (fun j => by have := hi (j + 1); rw [show i + 1 + j = i + (j + 1) by omega]; simpa using this) h ((ht.mono st.le).put hv hput) sat (by rw [st.thr]; exact Nat.le_trans hthr st.n)
            (fun ι2 a2 w2 ht2 st2 sat2 => hQ ι2 a2 w2 ht2 (st.trans st2) sat2))
        split
        · rename_i hw
          rw [if_pos hw] at this
          exact this
        · rename_i hw
          rw [if_neg hw] at this
          exact ⟨fun _ _ => trivial, this⟩
      · cases h
    · cases h
end
end Go.Proofs.Ytoifejinppjeeaa.Eng
namespace Go.Proofs.Ytoifejinppjeeaa.Eng
open Go Go.RowKit
set_option linter.unusedVariables false
set_option linter.unusedSimpArgs false
theorem testBit_pow (a b : Nat) : Nat.testBit (2 ^ a) b = decide (a = b) := Nat.testBit_two_pow
theorem ancOf_bit {anc : List Nat} : ∀ (es : List Edge) (m a : Nat), ancOf anc es m = some a → (∀ k, a.testBit k = true ↔ m.testBit k = true ∨ ∃ e ∈ es, Region.binds .any e = true ∧ (e.on = k ∨ (anc.getD e.on 0).testBit k = true)) ∧ ∀ e ∈ es, Region.binds .any e = true → e.on < anc.length
  | [], m, a, h => by
    simp [ancOf] at h
    subst h
    exact ⟨fun k => by simp, fun e he => by cases he⟩
  | e :: es, m, a, h => by
    simp only [ancOf] at h
    split at h
    · rename_i hb
      split at h
      · rename_i b hg
        rw [getL_eq] at hg
        obtain ⟨h1, h2⟩ := ancOf_bit es _ _ h
        have hlt : e.on < anc.length := (List.getElem?_eq_some_iff.1 hg).1
        have hgd : anc.getD e.on 0 = b := by simp [List.getD, hg]
        refine ⟨fun k => ?_, fun e' he' hb' => ?_⟩
        · rw [h1 k]
          have e1 : (Nat.lor m (Nat.lor (2 ^ e.on) b)).testBit k = (m.testBit k || (decide (e.on = k) || b.testBit k)) := by
            show (m ||| (2 ^ e.on ||| b)).testBit k = _
            rw [Nat.testBit_or, Nat.testBit_or, testBit_pow]
          rw [e1]
          constructor
          · rintro (h | ⟨e', he', hb', hk⟩)
            · simp only [Bool.or_eq_true, decide_eq_true_eq] at h
              rcases h with h | h | h
              · exact .inl h
              · exact .inr ⟨e, by simp, hb, .inl h⟩
              · exact .inr ⟨e, by simp, hb, .inr (by rw [hgd]; exact h)⟩
            · exact .inr ⟨e', List.mem_cons_of_mem _ he', hb', hk⟩
          · rintro (h | ⟨e', he', hb', hk⟩)
            · left; simp [h]
            · rcases List.mem_cons.1 he' with rfl | he'
              · left
                rcases hk with hk | hk
                · simp [hk]
                · rw [hgd] at hk; simp [hk]
              · exact .inr ⟨e', he', hb', hk⟩
        · rcases List.mem_cons.1 he' with rfl | he'
          · exact hlt
          · exact h2 e' he' hb'
      · cases h
    · rename_i hb
      obtain ⟨h1, h2⟩ := ancOf_bit es _ _ h
      refine ⟨fun k => ?_, fun e' he' hb' => ?_⟩
      · rw [h1 k]
        constructor
        · rintro (h | ⟨e', he', r⟩)
          · exact .inl h
          · exact .inr ⟨e', List.mem_cons_of_mem _ he', r⟩
        · rintro (h | ⟨e', he', hb', r⟩)
          · exact .inl h
          · rcases List.mem_cons.1 he' with rfl | he'
            · rw [hb] at hb'; cases hb'
            · exact .inr ⟨e', he', hb', r⟩
      · rcases List.mem_cons.1 he' with rfl | he'
        · rw [hb] at hb'; cases hb'
        · exact h2 e' he' hb'
/-- What the numbers of those waited for say. -/
structure AncOK (ops : List Oper) (ancs : List Nat) : Prop where
  len : ancs.length = ops.length
  bit : ∀ i o, ops[i]? = some o → ∀ k, (ancs.getD i 0).testBit k = true ↔ ∃ e ∈ o.after, Region.binds .any e = true ∧ (e.on = k ∨ (ancs.getD e.on 0).testBit k = true)
  edge : ∀ i o, ops[i]? = some o → ∀ e ∈ o.after, Region.binds .any e = true → e.on < i
theorem ancAll_ok {ops : List Oper} : ∀ (os : List Oper) (acc ancs : List Nat), (∀ j, ops[acc.length + j]? = os[j]?) → acc.length + os.length = ops.length →
    (∀ i, i < acc.length → ∀ o, ops[i]? = some o → (∀ k, (acc.getD i 0).testBit k = true ↔ ∃ e ∈ o.after, Region.binds .any e = true ∧ (e.on = k ∨ (acc.getD e.on 0).testBit k = true)) ∧ ∀ e ∈ o.after, Region.binds .any e = true → e.on < i) →
    ancAll os acc = some ancs → AncOK ops ancs
  | [], acc, ancs, hj, hl, hacc, h => by
    simp [ancAll] at h
    subst h
    simp at hl
    refine ⟨hl, fun i o ho => ?_, fun i o ho => ?_⟩
    · exact (hacc i (by rw [hl]; exact (List.getElem?_eq_some_iff.1 ho).1) o ho).1
    · exact (hacc i (by rw [hl]; exact (List.getElem?_eq_some_iff.1 ho).1) o ho).2
  | o :: os, acc, ancs, hj, hl, hacc, h => by
    simp only [ancAll] at h
    split at h
    · rename_i a ha
      obtain ⟨h1, h2⟩ := ancOf_bit _ _ _ ha
      have hget : ∀ i, i < acc.length → (acc ++ [a]).getD i 0 = acc.getD i 0 := fun i hi => by simp [List.getD, List.getElem?_append_left hi]
      refine ancAll_ok os (acc ++ [a]) ancs (fun j => ?_) (by simp at hl ⊢; omega) (fun i hi o' ho' => ?_) h
      · have := hj (j + 1)
        simp only [List.length_append, List.length_cons, List.length_nil, Nat.zero_add]
        rw [show acc.length + 1 + j = acc.length + (j + 1) by omega, this]
        simp
      · by_cases hi' : i < acc.length
        · obtain ⟨h3, h4⟩ := hacc i hi' o' ho'
          refine ⟨fun k => ?_, h4⟩
          rw [hget i hi', h3 k]
          constructor
          · rintro ⟨e, he, hb, r⟩
            have := h4 e he hb
            exact ⟨e, he, hb, by rw [hget e.on (by omega)]; exact r⟩
          · rintro ⟨e, he, hb, r⟩
            have := h4 e he hb
            exact ⟨e, he, hb, by rw [hget e.on (by omega)] at r; exact r⟩
        · have e : i = acc.length := by simp at hi; omega
          subst e
          have : o' = o := by
            have := hj 0
            simp at this
            rw [this] at ho'
            cases ho'; rfl
          subst this
          refine ⟨fun k => ?_, fun e he hb => h2 e (by simpa using he) hb⟩
          have e1 : (acc ++ [a]).getD acc.length 0 = a := by simp [List.getD]
          rw [e1, h1 k]
          constructor
          · rintro (h | ⟨e, he, hb, r⟩)
            · simp at h
            · have hlt := h2 e he hb
              exact ⟨e, by simpa using he, hb, by rw [hget e.on hlt]; exact r⟩
          · rintro ⟨e, he, hb, r⟩
            have hlt := h2 e (by simpa using he) hb
            exact .inr ⟨e, by simpa using he, hb, by rw [hget e.on hlt] at r; exact r⟩
    · cases h
theorem AncOK.lt {ops : List Oper} {ancs : List Nat} (h : AncOK ops ancs) : ∀ (i : Nat) (o : Oper) (k : Nat), ops[i]? = some o → (ancs.getD i 0).testBit k = true → k < i := by
  intro i
  induction i using Nat.strongRecOn with
  | ind i ih =>
    intro o k ho hk
    obtain ⟨e, he, hb, r⟩ := (h.bit i o ho k).1 hk
    have hlt := h.edge i o ho e he hb
    rcases r with r | r
    · omega
    · have hi : i < ops.length := (List.getElem?_eq_some_iff.1 ho).1
      have := ih e.on hlt _ k (List.getElem?_eq_getElem (show e.on < ops.length by omega)) r
      omega
theorem memN_iff {k : Nat} : ∀ {l : List Nat}, memN k l = true ↔ k ∈ l
  | [] => by simp [memN]
  | x :: l => by
    simp only [memN]
    split
    · rename_i h
      simp [beq_tt h]
    · rename_i h
      have : k ≠ x := fun e => by rw [e] at h; simp at h
      rw [memN_iff, List.mem_cons]
      simp [this]
theorem noDup_ok : ∀ {l : List Nat}, noDup l = true → l.Nodup
  | [], _ => List.nodup_nil
  | x :: l, h => by
    simp only [noDup] at h
    split at h
    · cases h
    · rename_i hm
      exact List.nodup_cons.2 ⟨(fun e => by rw [memN_iff.2 e] at hm; cases hm), noDup_ok h⟩
theorem dst_mem {ops : List Oper} : ∀ {i : Nat} {o : Oper} {d : Nat}, ops[i]? = some o → o.dst = some d → d ∈ dsts ops := by
  induction ops with
  | nil => intro i o d h; simp at h
  | cons p ops ih =>
    intro i o d h hd
    cases i with
    | zero => simp at h; subst h; simp [dsts, hd]
    | succ i =>
      simp at h
      have := ih h hd
      simp only [dsts]
      split
      · exact List.mem_cons_of_mem _ this
      · exact this
theorem dst_inj {ops : List Oper} : (dsts ops).Nodup → ∀ {i j : Nat} {o p : Oper} {d : Nat}, ops[i]? = some o → ops[j]? = some p → o.dst = some d → p.dst = some d → i = j := by
  induction ops with
  | nil => intro _ i j o p d h; simp at h
  | cons q ops ih =>
    intro hn i j o p d hi hj ho hp
    have hn' : (dsts ops).Nodup := by
      simp only [dsts] at hn
      split at hn
      · exact (List.nodup_cons.1 hn).2
      · exact hn
    have key : ∀ {r : Oper} {k : Nat}, q.dst = some d → ops[k]? = some r → r.dst = some d → False := fun {r k} hq hr hd => by
      have hm := dst_mem hr hd
      simp only [dsts, hq] at hn
      exact (List.nodup_cons.1 hn).1 hm
    cases i with
    | zero =>
      simp at hi; subst hi
      cases j with
      | zero => rfl
      | succ j => simp at hj; exact (key ho hj hp).elim
    | succ i =>
      simp at hi
      cases j with
      | zero => simp at hj; subst hj; exact (key hp hi ho).elim
      | succ j => simp at hj; rw [ih hn' hi hj ho hp]
theorem useOK_ok {i a t : Nat} : ∀ {j0 : Nat} {ps : List Oper} {bs : List Nat}, useOK i a t j0 ps bs = true → ∀ j p b, ps[j]? = some p → bs[j]? = some b → p.dst = some t → j0 + j = i ∨ a.testBit (j0 + j) = true ∨ b.testBit i = true
  | j0, [], bs, _, j, p, b, hp, _, _ => by simp at hp
  | j0, q :: ps, [], h, j, p, b, hp, hb, _ => by simp at hb
  | j0, q :: ps, c :: bs, h, j, p, b, hp, hb, hd => by
    simp only [useOK] at h
    have rest : useOK i a t (j0 + 1) ps bs = true → ∀ j', j = j' + 1 → j0 + j = i ∨ a.testBit (j0 + j) = true ∨ b.testBit i = true := fun hr j' e => by
      subst e
      simp at hp hb
      have := useOK_ok hr j' p b hp hb hd
      rwa [show j0 + 1 + j' = j0 + (j' + 1) by omega] at this
    cases j with
    | zero =>
      simp at hp hb
      subst hp; subst hb
      rw [hd] at h
      dsimp only at h
      rw [show Nat.beq t t = true from Nat.beq_refl t] at h
      dsimp only at h
      split at h
      · cases h
      · rename_i hn
        cases e1 : Nat.beq j0 i with
        | true => exact .inl (beq_tt e1)
        | false =>
          cases e2 : a.testBit j0 with
          | true => exact .inr (.inl (by first | rfl | exact e2))
          | false =>
            cases e3 : c.testBit i with
            | true => exact .inr (.inr (by first | rfl | exact e3))
            | false => exact (hn e1 e2 e3).elim
    | succ j =>
      refine rest ?_ j rfl
      split at h
      · exact h
      · split at h
        · exact h
        · split at h
          · cases h
          · exact h
theorem usesOK_ok {ops : List Oper} {ancs : List Nat} {i a : Nat} : ∀ {ts : List Nat}, usesOK ops ancs i a ts = true → ∀ t ∈ ts, useOK i a t 0 ops ancs = true
  | [], _, t, ht => by cases ht
  | x :: ts, h, t, ht => by
    simp only [usesOK] at h
    split at h
    · rename_i hx
      rcases List.mem_cons.1 ht with rfl | ht
      · exact hx
      · exact usesOK_ok h t ht
    · cases h
theorem allUses_ok {ops : List Oper} {ancs : List Nat} : ∀ {i0 : Nat} {os : List Oper} {l : List Nat}, allUses ops ancs i0 os l = true → ∀ i o a, os[i]? = some o → l[i]? = some a → usesOK ops ancs (i0 + i) a (usesT ops o) = true
  | i0, [], l, _, i, o, a, ho, _ => by simp at ho
  | i0, q :: os, [], h, i, o, a, ho, ha => by simp at ha
  | i0, q :: os, c :: l, h, i, o, a, ho, ha => by
    simp only [allUses] at h
    split at h
    · rename_i hx
      cases i with
      | zero => simp at ho ha; subst ho; subst ha; exact hx
      | succ i =>
        simp at ho ha
        have := allUses_ok h i o a ho ha
        rwa [show i0 + 1 + i = i0 + (i + 1) by omega] at this
    · cases h
/-- What a well made region gives. -/
structure RegOK (ops : List Oper) (ancs : List Nat) : Prop extends AncOK ops ancs where
  uses : ∀ (i : Nat) (o : Oper) (t j : Nat) (p : Oper), ops[i]? = some o → t ∈ usesT ops o → ops[j]? = some p → p.dst = some t → j = i ∨ (ancs.getD i 0).testBit j = true ∨ (ancs.getD j 0).testBit i = true
  one : ∀ (i j : Nat) (o p : Oper) (d : Nat), ops[i]? = some o → ops[j]? = some p → o.dst = some d → p.dst = some d → i = j
theorem drawOK_ok {ops : List Oper} {ancs : List Nat} (h : drawOK ops = some ancs) : RegOK ops ancs := by
  unfold drawOK at h
  split at h
  · rename_i as' ha
    split at h
    · rename_i hu hd
      cases h
      have hA : AncOK ops ancs := ancAll_ok ops [] ancs (fun j => by simp) (by simp) (fun i hi => by simp at hi) ha
      refine ⟨hA, fun i o t j p ho ht hp hd' => ?_, fun i j o p d hi hj ho hp => dst_inj (noDup_ok hd) hi hj ho hp⟩
      have hil : i < ancs.length := by rw [hA.len]; exact (List.getElem?_eq_some_iff.1 ho).1
      have hjl : j < ancs.length := by rw [hA.len]; exact (List.getElem?_eq_some_iff.1 hp).1
      have h1 := allUses_ok hu i o _ ho (List.getElem?_eq_getElem hil)
      rw [Nat.zero_add] at h1
      have h2 := useOK_ok (usesOK_ok h1 t ht) j p _ hp (List.getElem?_eq_getElem hjl) hd'
      rw [Nat.zero_add] at h2
      have e1 : ancs.getD i 0 = ancs[i] := by simp [List.getD, hil]
      have e2 : ancs.getD j 0 = ancs[j] := by simp [List.getD, hjl]
      rw [e1, e2]
      exact h2
    · cases h
  · cases h
theorem disjN_ok : ∀ {l m : List Nat}, disjN l m = true → ∀ k, k ∈ l → k ∈ m → False
  | [], m, _, k, hk, _ => by cases hk
  | x :: l, m, h, k, hk, hm => by
    simp only [disjN] at h
    split at h
    · cases h
    · rename_i hx
      rcases List.mem_cons.1 hk with rfl | hk
      · rw [memN_iff.2 hm] at hx; cases hx
      · exact disjN_ok h k hk hm
theorem outOf_ok {lo hi : Nat} : ∀ {l : List Nat}, outOf lo hi l = true → ∀ k ∈ l, ¬ (lo ≤ k ∧ k < hi)
  | [], _, k, hk => by cases hk
  | x :: l, h, k, hk => by
    simp only [outOf] at h
    split at h
    · cases h
    · rename_i hn
      rcases List.mem_cons.1 hk with rfl | hk
      · rintro ⟨h1, h2⟩
        exact hn (Nat.ble_eq_true_of_le h1) (by simpa [Nat.blt_eq] using h2)
      · exact outOf_ok h k hk
/-- Two operations that have nothing to do with one another. -/
def Apart (L : Log) (rd wr : List Nat) : Prop := (∀ k, k ∈ L.wr → k ∈ rd → False) ∧ (∀ k, k ∈ wr → k ∈ L.rd → False) ∧ ∀ k ∈ rd, ¬ (L.lo ≤ k ∧ k < L.hi)
theorem apartB_ok {a : Nat} {rd wr : List Nat} : ∀ {i0 : Nat} {l : List Log}, apartB i0 a rd wr l = true → ∀ j L, l[j]? = some L → a.testBit (i0 + j) = true ∨ Apart L rd wr
  | i0, [], _, j, L, hL => by simp at hL
  | i0, g :: l, h, j, L, hL => by
    simp only [apartB] at h
    cases j with
    | zero =>
      simp at hL
      subst hL
      split at h
      · rename_i hb; exact .inl (by rw [Nat.add_zero]; exact hb)
      · split at h
        · rename_i h1 h2 h3
          exact .inr ⟨disjN_ok h1, disjN_ok h2, outOf_ok h3⟩
        · cases h
    | succ j =>
      simp at hL
      have hr : apartB (i0 + 1) a rd wr l = true := by
        split at h
        · exact h
        · split at h
          · exact h
          · cases h
      have := apartB_ok hr j L hL
      rwa [show i0 + 1 + j = i0 + (j + 1) by omega] at this
theorem below?_mem {thr x : Nat} : ∀ {l acc : List Nat}, x ∈ below? thr l acc ↔ x ∈ acc ∨ (x ∈ l ∧ x < thr)
  | [], acc => by simp [below?]
  | y :: l, acc => by
    simp only [below?]
    split
    · rename_i h
      have h' : y < thr := by simpa [Nat.blt_eq] using h
      rw [below?_mem]
      simp only [List.mem_cons]
      constructor
      · rintro ((rfl | h) | ⟨h, h2⟩)
        · exact .inr ⟨.inl rfl, h'⟩
        · exact .inl h
        · exact .inr ⟨.inr h, h2⟩
      · rintro (h | ⟨rfl | h, h2⟩)
        · exact .inl (.inr h)
        · exact .inl (.inl rfl)
        · exact .inr ⟨h, h2⟩
    · rename_i h
      have h' : ¬ y < thr := fun e => by rw [show Nat.blt y thr = true by simpa [Nat.blt_eq] using e] at h; cases h
      rw [below?_mem]
      simp only [List.mem_cons]
      constructor
      · rintro (h | ⟨h, h2⟩)
        · exact .inl h
        · exact .inr ⟨.inr h, h2⟩
      · rintro (h | ⟨rfl | h, h2⟩)
        · exact .inl h
        · exact (h' h2).elim
        · exact .inr ⟨h, h2⟩
end Go.Proofs.Ytoifejinppjeeaa.Eng
namespace Go.Proofs.Ytoifejinppjeeaa.Eng
open Go Go.RowKit
set_option linter.unusedVariables false
set_option linter.unusedSimpArgs false
/-- The evaluation of a region, operation by operation. -/
structure Trace (P : Program) (call : Cl → List AV → G → Option (AV × G)) (Nt : Nat) (ops : List Oper) (ancs : List Nat) (i0 i1 : Nat) (sg s1 : Nat → G) (st : Nat → T AV) (av : Nat → AV) (lg : Nat → Log) : Prop where
  one : ∀ i o, i0 ≤ i → i < i1 → ops[i]? = some o → evOne P call ops (st i) o ⟨(sg i).H, (sg i).n, (sg i).n, [], []⟩ = some (av i, s1 i)
  put : ∀ i o, i0 ≤ i → i < i1 → ops[i]? = some o → putT Nt (st i) o.dst (av i) = some (st (i + 1))
  next : ∀ i, i0 ≤ i → i < i1 → sg (i + 1) = ⟨(s1 i).H, (s1 i).n, (sg i).thr, below? (sg i).thr (s1 i).rd (sg i).rd, below? (sg i).thr (s1 i).wr (sg i).wr⟩
  log : ∀ i, i0 ≤ i → i < i1 → lg i = ⟨(s1 i).rd, (s1 i).wr, (sg i).n, (s1 i).n⟩
  apart : ∀ i j, i0 ≤ i → i < i1 → j < i → (ancs.getD i 0).testBit j = true ∨ Apart (lg j) (s1 i).rd (s1 i).wr
theorem trace_of {P : Program} {call : Cl → List AV → G → Option (AV × G)} {Nt : Nat} {ops : List Oper} {ancs : List Nat} {tm' : T AV} {g' : G} :
    ∀ (os : List Oper) (as' : List Nat) (logs : List Log) (tm : T AV) (g : G) (i0 : Nat), (∀ j, ops[i0 + j]? = os[j]?) → (∀ j, ancs[i0 + j]? = as'[j]?) → logs.length = i0 → evDraw P call Nt ops os as' logs tm g = some (tm', g') →
      ∃ sg s1 st av lg, Trace P call Nt ops ancs i0 (i0 + os.length) sg s1 st av lg ∧ sg i0 = g ∧ st i0 = tm ∧ sg (i0 + os.length) = g' ∧ st (i0 + os.length) = tm' ∧ ∀ j, j < i0 → logs[j]? = some (lg j)
  | [], as', logs, tm, g, i0, ho, ha, hl, h => by
    simp [evDraw] at h
    obtain ⟨rfl, rfl⟩ := h
    refine ⟨fun _ => g, fun _ => g, fun _ => tm, fun _ => .v undef, fun j => logs.getD j ⟨[], [], 0, 0⟩, ⟨fun i o h1 h2 => by simp at h2; omega, fun i o h1 h2 => by simp at h2; omega, fun i h1 h2 => by simp at h2; omega, fun i h1 h2 => by simp at h2; omega, fun i j h1 h2 => by simp at h2; omega⟩, rfl, rfl, rfl, rfl, fun j hj => ?_⟩
    have : j < logs.length := by omega
    simp [List.getD, this]
  | o :: os, [], logs, tm, g, i0, ho, ha, hl, h => by simp [evDraw] at h
  | o :: os, a :: as', logs, tm, g, i0, ho, ha, hl, h => by
    simp only [evDraw] at h
    split at h
    · cases h
    · rename_i v g1 hone
      split at h
      · cases h
      · rename_i hap
        split at h
        · cases h
        · rename_i tm1 hput
          obtain ⟨sg, s1, st, av, lg, tr, e1, e2, e3, e4, e5⟩ := trace_of os as' _ tm1 _ (i0 + 1) (fun j => by have := ho (j + 1); rw [show i0 + 1 + j = i0 + (j + 1) by omega, this]; simp) (fun j => by have := ha (j + 1); rw [show i0 + 1 + j = i0 + (j + 1) by omega, this]; simp) (by simp [hl]) h
          have elen : i0 + 1 + os.length = i0 + (o :: os).length := by simp; omega
          rw [elen] at tr e3 e4
          have hlgi : lg i0 = ⟨g1.rd, g1.wr, g.n, g1.n⟩ := by
            have := e5 i0 (by omega)
            rw [List.getElem?_append_right (by omega), hl, Nat.sub_self] at this
            simpa using this.symm
          have ho0 : ops[i0]? = some o := by have := ho 0; simpa using this
          have ha0 : ancs.getD i0 0 = a := by have := ha 0; simp at this; simp [List.getD, this]
          refine ⟨fun k => if k = i0 then g else sg k, fun k => if k = i0 then g1 else s1 k, fun k => if k = i0 then tm else st k, fun k => if k = i0 then v else av k, lg, ⟨fun i p h1 h2 hp => ?_, fun i p h1 h2 hp => ?_, fun i h1 h2 => ?_, fun i h1 h2 => ?_, fun i j h1 h2 hj => ?_⟩, by simp, by simp, ?_, ?_, fun j hj => ?_⟩
          · by_cases e : i = i0
            · subst e
              rw [ho0] at hp; cases hp
              simpa using hone
            · simp only [if_neg e]
              exact tr.one i p (by omega) h2 hp
          · by_cases e : i = i0
            · subst e
              rw [ho0] at hp; cases hp
              simp only [if_true, if_neg (show ¬ i + 1 = i by omega)]
              rw [e2]; exact hput
            · simp only [if_neg e, if_neg (show ¬ i + 1 = i0 by omega)]
              exact tr.put i p (by omega) h2 hp
          · by_cases e : i = i0
            · subst e
              simp only [if_true, if_neg (show ¬ i + 1 = i by omega)]
              exact e1
            · simp only [if_neg e, if_neg (show ¬ i + 1 = i0 by omega)]
              exact tr.next i (by omega) h2
          · by_cases e : i = i0
            · subst e
              simp only [if_true]
              exact hlgi
            · simp only [if_neg e]
              exact tr.log i (by omega) h2
          · by_cases e : i = i0
            · subst e
              simp only [if_true]
              rw [ha0]
              have hj' := e5 j (by omega)
              rw [List.getElem?_append_left (by omega)] at hj'
              have := apartB_ok hap j (lg j) hj'
              rwa [Nat.zero_add] at this
            · simp only [if_neg e]
              exact tr.apart i j (by omega) h2 hj
          · have : ¬ i0 + (o :: os).length = i0 := by simp
            show (if _ then _ else _) = _
            rw [if_neg this]; exact e3
          · have : ¬ i0 + (o :: os).length = i0 := by simp
            show (if _ then _ else _) = _
            rw [if_neg this]; exact e4
          · have := e5 j (by omega)
            rwa [List.getElem?_append_left (by omega)] at this
section
variable {P : Program} {call : Cl → List AV → G → Option (AV × G)} {Nt : Nat} {ops : List Oper} {ancs : List Nat} {sg s1 : Nat → G} {st : Nat → T AV} {av : Nat → AV} {lg : Nat → Log}
/-- The state that an operation starts from: its own log. -/
def own (g : G) : G := ⟨g.H, g.n, g.n, [], []⟩
/-- What a whole region's evaluation gives, memory only. -/
structure Flow (ops : List Oper) (ancs : List Nat) (sg s1 : Nat → G) (lg : Nat → Log) : Prop where
  mono : ∀ i, i < ops.length → Mono (own (sg i)) (s1 i)
  next : ∀ i, i < ops.length → sg (i + 1) = ⟨(s1 i).H, (s1 i).n, (sg i).thr, below? (sg i).thr (s1 i).rd (sg i).rd, below? (sg i).thr (s1 i).wr (sg i).wr⟩
  apart : ∀ i j, i < ops.length → j < i → (ancs.getD i 0).testBit j = true ∨ Apart ⟨(s1 j).rd, (s1 j).wr, (sg j).n, (s1 j).n⟩ (s1 i).rd (s1 i).wr
theorem Trace.flow (hc : CallOK P call) (h : Trace P call Nt ops ancs 0 ops.length sg s1 st av lg) : Flow ops ancs sg s1 lg :=
  ⟨fun i hi => evOne_mono hc (h.one i _ (Nat.zero_le _) hi (List.getElem?_eq_getElem hi)), fun i hi => h.next i (Nat.zero_le _) hi, fun i j hi hj => by
    have := h.apart i j (Nat.zero_le _) hi hj
    rwa [h.log j (Nat.zero_le _) (by omega)] at this⟩
variable (fl : Flow ops ancs sg s1 lg)
/-- Operation j has made or written name k. -/
def Tch (sg s1 : Nat → G) (j k : Nat) : Prop := k ∈ (s1 j).wr ∨ ((sg j).n ≤ k ∧ k < (s1 j).n)
include fl
theorem Flow.n_step {i : Nat} (hi : i < ops.length) : (sg i).n ≤ (s1 i).n ∧ (sg (i + 1)).n = (s1 i).n ∧ (sg (i + 1)).thr = (sg i).thr ∧ (sg (i + 1)).H = (s1 i).H := by
  have := (fl.mono i hi).n
  rw [fl.next i hi]
  exact ⟨this, rfl, rfl, rfl⟩
theorem Flow.n_le : ∀ {i j : Nat}, i ≤ j → j ≤ ops.length → (sg i).n ≤ (sg j).n ∧ (sg j).thr = (sg i).thr := by
  intro i j h
  induction h with
  | refl => intro _; exact ⟨Nat.le_refl _, rfl⟩
  | step h ih =>
    intro hj
    rename_i m
    have h1 := ih (by omega)
    have h2 := fl.n_step (show m < ops.length by omega)
    show _ ≤ (sg (m + 1)).n ∧ _
    exact ⟨by omega, h2.2.2.1.trans h1.2⟩
theorem Flow.rd_lt {i k : Nat} (hi : i < ops.length) (hk : k ∈ (s1 i).rd) : k < (sg i).n := by
  rcases (fl.mono i hi).rlt k hk with h | h
  · cases h
  · exact h
theorem Flow.wr_rd {i k : Nat} (hi : i < ops.length) (hk : k ∈ (s1 i).wr) : k ∈ (s1 i).rd := by
  rcases (fl.mono i hi).wrd k hk with h | h
  · cases h
  · exact h
theorem Flow.same1 {i k : Nat} (hi : i < ops.length) (hk : k < (sg i).n) (hw : k ∉ (s1 i).wr) : (sg (i + 1)).H.get k = (sg i).H.get k := by
  rw [(fl.n_step hi).2.2.2]
  refine (fl.mono i hi).habs k hk fun h => ?_
  rcases h with h | h
  · exact hw h
  · have e : (s1 i).thr = (sg i).n := (fl.mono i hi).thr
    rw [e] at h
    omega
theorem Flow.dom (ht : (sg 0).thr ≤ (sg 0).n) (hd : ∀ k l, (sg 0).H.get k = some l → k < (sg 0).n) : ∀ i, i ≤ ops.length → ∀ k l, (sg i).H.get k = some l → k < (sg i).n := by
  intro i
  induction i with
  | zero => intro _; exact hd
  | succ i ih =>
    intro hi k l hl
    have h1 := fl.n_step (show i < ops.length by omega)
    rw [h1.2.2.2] at hl
    rw [h1.2.1]
    exact (fl.mono i (by omega)).dom (Nat.le_refl _) (ih (by omega)) k l hl
/-- Nobody between has touched k. -/
theorem Flow.same {k : Nat} (ht : (sg 0).thr ≤ (sg 0).n) (hd : ∀ k l, (sg 0).H.get k = some l → k < (sg 0).n) : ∀ {i j : Nat}, i ≤ j → j ≤ ops.length → (∀ m, i ≤ m → m < j → ¬ Tch sg s1 m k) → (sg j).H.get k = (sg i).H.get k := by
  intro i j h
  induction h with
  | refl => intro _ _; rfl
  | step h ih =>
    intro hj hn
    rename_i m
    rw [← ih (by omega) fun q h1 h2 => hn q h1 (by omega)]
    have hm : m < ops.length := by omega
    have hq := hn m h (by omega)
    by_cases hk : k < (sg m).n
    · exact fl.same1 hm hk fun e => hq (.inl e)
    · have h1 := fl.n_step hm
      have hk2 : ¬ k < (s1 m).n := fun e => hq (.inr ⟨by omega, e⟩)
      have e1 : (sg m).H.get k = none := by
        cases e : (sg m).H.get k with
        | none => rfl
        | some l => exact absurd (fl.dom ht hd m (by omega) k l e) hk
      have e2 : (sg (m + 1)).H.get k = none := by
        cases e : (sg (m + 1)).H.get k with
        | none => rfl
        | some l => have := fl.dom ht hd (m + 1) (by omega) k l e; omega
      rw [e1, e2]
/-- Who touches what another one looks at is waited for, or waits. -/
theorem Flow.near {i j k : Nat} (hi : i < ops.length) (hj : j < ops.length) (hne : i ≠ j) (hk : k ∈ (s1 i).rd) (ht : Tch sg s1 j k) : (ancs.getD i 0).testBit j = true ∨ (ancs.getD j 0).testBit i = true := by
  rcases Nat.lt_or_ge j i with h | h
  · left
    rcases fl.apart i j hi h with h1 | ⟨h1, h2, h3⟩
    · exact h1
    · exfalso
      rcases ht with ht | ht
      · exact h1 k ht hk
      · exact h3 k hk ht
  · right
    have h : i < j := by omega
    rcases fl.apart j i hj h with h1 | ⟨h1, h2, h3⟩
    · exact h1
    · exfalso
      rcases ht with ht | ht
      · exact h2 k ht hk
      · have := fl.rd_lt hi hk
        have := (fl.n_le (i := i) (j := j) (by omega) (by omega)).1
        omega
theorem Flow.near2 {i j k : Nat} (hi : i < ops.length) (hj : j < ops.length) (hne : i ≠ j) (hk : Tch sg s1 i k) (ht : Tch sg s1 j k) : (ancs.getD i 0).testBit j = true ∨ (ancs.getD j 0).testBit i = true := by
  rcases hk with hk | hk
  · exact fl.near hi hj hne (fl.wr_rd hi hk) ht
  · rcases ht with ht | ht
    · exact (fl.near hj hi (Ne.symm hne) (fl.wr_rd hj ht) (.inr hk)).symm
    · exfalso
      have a1 := fl.n_step hi
      have a2 := fl.n_step hj
      rcases Nat.lt_or_ge i j with h | h
      · have := (fl.n_le (i := i + 1) (j := j) (by omega) (by omega)).1
        omega
      · have := (fl.n_le (i := j + 1) (j := i) (by omega) (by omega)).1
        omega
end
end Go.Proofs.Ytoifejinppjeeaa.Eng
namespace Go.Proofs.Ytoifejinppjeeaa.Eng
open Go Go.RowKit
set_option linter.unusedVariables false
set_option linter.unusedSimpArgs false
/-- The operation has been carried out. -/
abbrev Did (listed : Array Bool) (i : Nat) : Prop := listed.getD i false = true
theorem did_set {listed : Array Bool} {i j : Nat} (hi : i < listed.size) : Did (listed.setIfInBounds i true) j ↔ j = i ∨ Did listed j := by
  unfold Did
  by_cases e : j = i
  · subst e; simp [hi]
  · simp [Array.getElem?_setIfInBounds, Ne.symm e, e]
section
variable {P : Program} {call : Cl → List AV → G → Option (AV × G)} {Nt N : Nat} {ds : List Deferred} {F : Nat → Prop} {ops : List Oper} {ancs : List Nat} {sg s1 : Nat → G} {st : Nat → T AV} {av : Nat → AV} {lg : Nat → Log} {ι0 : Io} {w0 w1 : World}
/-- k's content is that of the text's order ahead of operation i. -/
def Cur (sg s1 : Nat → G) (n : Nat) (D : Nat → Prop) (k i : Nat) : Prop := (∀ j, j < i → Tch sg s1 j k → D j) ∧ ∀ j, i ≤ j → j < n → D j → ¬ Tch sg s1 j k
structure Inv (P : Program) (Nt : Nat) (ds : List Deferred) (N : Nat) (F : Nat → Prop) (ops : List Oper) (ancs : List Nat) (sg s1 : Nat → G) (st : Nat → T AV) (av : Nat → AV) (ι0 : Io) (w0 w1 : World) (ι : Io) (listed : Array Bool) (a : Act) (w : World) : Prop where
  len : listed.size = ops.length
  closed : ∀ i, i < ops.length → Did listed i → ∀ k, (ancs.getD i 0).testBit k = true → Did listed k
  size : a.tmps.size = Nt
  defers : a.defers = ds
  tdone : ∀ i o d, ops[i]? = some o → Did listed i → o.dst = some d → VR ι (av i) (a.eval (.tmp d))
  tfree : ∀ t, (∀ i o, ops[i]? = some o → Did listed i → o.dst ≠ some t) → VR ι (opnd (st 0) (.tmp t)) (a.eval (.tmp t))
  inj : ∀ k k' b m m', ι k = .at_ b m → ι k' = .at_ b m' → k = k'
  bnd : ∀ k b m, ι k = .at_ b m → w0.heap.size ≤ b ∧ b < w.heap.size
  bel : Below w0.heap.size w0 w
  un : ∀ i, i < ops.length → ¬ Did listed i → ∀ k, (sg i).n ≤ k → k < (s1 i).n → ι k = .un
  un2 : ∀ k, (sg ops.length).n ≤ k → k < N → ι k = .un
  rel : ∀ k i l, F k → i ≤ ops.length → Cur sg s1 ops.length (Did listed) k i → (sg i).H.get k = some l → ∃ b m, ι k = .at_ b m ∧ BX ι l w b m
  le : Le ι0 ι
  old : ∀ k, k < (sg 0).n → ι k = ι0 k ∨ (ι k = .dead ∧ ∃ j, j < ops.length ∧ Did listed j ∧ k ∈ (s1 j).wr)
  far : ∀ k, (sg ops.length).n ≤ k → ι k = ι0 k
  newb : ∀ k b m, (sg 0).n ≤ k → k < (sg ops.length).n → ι k = .at_ b m → w1.heap.size ≤ b ∨ ∃ k0 m0, (∃ j, j < ops.length ∧ Did listed j ∧ k0 ∈ (s1 j).wr) ∧ k0 < (sg 0).n ∧ ι0 k0 = .at_ b m0
  frame : ∀ b, b < w1.heap.size → (∀ k m, k < (sg 0).n → (∃ j, j < ops.length ∧ Did listed j ∧ k ∈ (s1 j).wr) → ι0 k ≠ .at_ b m) → w.heap[b]? = w1.heap[b]?
  hsize : w1.heap.size ≤ w.heap.size
  os : w.os = w1.os
  tape : w.tape = w1.tape
  output : w.output = w1.output
/-- What names a run of operation i may look at. -/
def FI (sg s1 : Nat → G) (i : Nat) : Nat → Prop := fun k => k ∈ (s1 i).rd ∨ k ∈ (s1 i).wr ∨ (sg i).n ≤ k
theorem st_untouched (hr : RegOK ops ancs) (tr : Trace P call Nt ops ancs 0 ops.length sg s1 st av lg) (t : Nat) : ∀ i, i ≤ ops.length → (∀ j p, j < i → ops[j]? = some p → p.dst ≠ some t) → opnd (st i) (.tmp t) = opnd (st 0) (.tmp t) := by
  intro i
  induction i with
  | zero => intro _ _; rfl
  | succ i ih =>
    intro hi hn
    have hil : i < ops.length := by omega
    rw [← ih (by omega) fun j p hj hp => hn j p (by omega) hp]
    have hput := tr.put i _ (Nat.zero_le _) hil (List.getElem?_eq_getElem hil)
    have hd := hn i _ (by omega) (List.getElem?_eq_getElem hil)
    rw [putT_eq] at hput
    split at hput
    · injection hput with hput; rw [← hput]
    · rename_i d hdst
      split at hput
      · have hget := T.set_get _ _ _ _ _ hput
        refine opnd_eq ?_
        rw [hget, if_neg]
        intro e
        subst e
        exact hd hdst
      · cases hput
theorem st_touched (hr : RegOK ops ancs) (tr : Trace P call Nt ops ancs 0 ops.length sg s1 st av lg) {j d : Nat} {p : Oper} (hp : ops[j]? = some p) (hd : p.dst = some d) : ∀ i, i ≤ ops.length → j < i → opnd (st i) (.tmp d) = av j := by
  intro i
  induction i with
  | zero => intro _ h; omega
  | succ i ih =>
    intro hi hj
    have hil : i < ops.length := by omega
    have hput := tr.put i _ (Nat.zero_le _) hil (List.getElem?_eq_getElem hil)
    by_cases e : j = i
    · subst e
      rw [List.getElem?_eq_getElem hil] at hp
      cases hp
      rw [putT_eq] at hput
      rw [hd] at hput
      dsimp only at hput
      split at hput
      · have hget := T.set_get _ _ _ _ _ hput
        exact opnd_some (by rw [hget, if_pos rfl])
      · cases hput
    · rw [← ih (by omega) (by omega)]
      rw [putT_eq] at hput
      split at hput
      · injection hput with hput; rw [← hput]
      · rename_i d' hdst
        split at hput
        · have hget := T.set_get _ _ _ _ _ hput
          refine opnd_eq ?_
          rw [hget, if_neg]
          intro e2
          subst e2
          exact e (hr.one j i p _ d hp (List.getElem?_eq_getElem hil) hd hdst)
        · cases hput
variable {ι : Io} {listed : Array Bool} {a : Act} {w : World}
/-- The temporaries of an operation that may be carried out now. -/
theorem Inv.uses (hr : RegOK ops ancs) (tr : Trace P call Nt ops ancs 0 ops.length sg s1 st av lg) (h : Inv P Nt ds N F ops ancs sg s1 st av ι0 w0 w1 ι listed a w) {i : Nat} {o : Oper} (ho : ops[i]? = some o) (hn : ¬ Did listed i) (ha : ∀ k, (ancs.getD i 0).testBit k = true → Did listed k) :
    UR ι ops o (st i) a := by
  have hi : i < ops.length := (List.getElem?_eq_some_iff.1 ho).1
  intro t ht
  by_cases hex : ∃ (j : Nat) (p : Oper), ops[j]? = some p ∧ p.dst = some t
  · obtain ⟨j, p, hp, hd⟩ := hex
    have hj : j < ops.length := (List.getElem?_eq_some_iff.1 hp).1
    rcases hr.uses i o t j p ho ht hp hd with e | e | e
    · subst e
      rw [st_untouched hr tr t j (by omega) fun q r hq hr' he => by
        have := hr.one q j r p t hr' hp he hd
        omega]
      exact h.tfree t fun q r hr' hdid he => by
        have := hr.one q j r p t hr' hp he hd
        subst this
        exact hn hdid
    · have hlt := hr.lt i o j ho e
      rw [st_touched hr tr hp hd i (by omega) hlt]
      exact h.tdone j p t hp (ha j e) hd
    · have hlt := hr.lt j p i hp e
      rw [st_untouched hr tr t i (by omega) fun q r hq hr' he => by
        have := hr.one q j r p t hr' hp he hd
        omega]
      exact h.tfree t fun q r hr' hdid he => by
        have := hr.one q j r p t hr' hp he hd
        subst this
        exact hn (h.closed q hj hdid i e)
  · rw [st_untouched hr tr t i (by omega) fun q r _ hr' he => hex ⟨q, r, hr', he⟩]
    exact h.tfree t fun q r hr' _ he => hex ⟨q, r, hr', he⟩
/-- The state in which operation i is carried out now is that of the text's order, as far as it looks. -/
theorem Inv.sat (fl : Flow ops ancs sg s1 lg) (ht : (sg 0).thr ≤ (sg 0).n) (hd0 : ∀ k l, (sg 0).H.get k = some l → k < (sg 0).n) (h : Inv P Nt ds N F ops ancs sg s1 st av ι0 w0 w1 ι listed a w)
    (hF : ∀ i, i < ops.length → ∀ k, k ∈ (s1 i).rd → F k) {i : Nat} (hi : i < ops.length) (hn : ¬ Did listed i) (ha : ∀ k, (ancs.getD i 0).testBit k = true → Did listed k) :
    Sat (s1 i).n (FI sg s1 i) (Eng.own (sg i)) ι w0 w := by
  refine ⟨h.inj, h.bnd, fun k h1 h2 => h.un i hi hn k h1 h2, fun k l hl => fl.dom ht hd0 i (by omega) k l hl, fun k l hk hl => ?_, h.bel⟩
  change (sg i).H.get k = some l at hl
  have hkn := fl.dom ht hd0 i (by omega) k l hl
  have hkr : k ∈ (s1 i).rd := by
    rcases hk with hk | hk | hk
    · exact hk
    · exact fl.wr_rd hi hk
    · omega
  refine h.rel k i l (hF i hi k hkr) (by omega) ⟨fun j hj hT => ?_, fun j hj hjn hD hT => ?_⟩ hl
  · rcases fl.near hi (by omega) (by omega) hkr hT with e | e
    · exact ha j e
    · exfalso
      rcases fl.apart i j hi hj with e2 | ⟨e1, e2, e3⟩
      · -- both wait for one another
        exact absurd (ha j e2) (fun hD => hn (h.closed j (by omega) hD i e))
      · rcases hT with hT | hT
        · exact e1 k hT hkr
        · exact e3 k hkr hT
  · by_cases e : j = i
    · subst e; exact hn hD
    · rcases fl.near hi hjn (by omega) hkr hT with e2 | e2
      · rcases fl.apart j i hjn (by omega) with e3 | ⟨e3, e4, e5⟩
        · exact hn (h.closed j hjn hD i e3)
        · rcases hT with hT | hT
          · exact e4 k hT hkr
          · have := fl.rd_lt hi hkr
            have := (fl.n_le (i := i) (j := j) hj (by omega)).1
            omega
      · exact hn (h.closed j hjn hD i e2)
end
end Go.Proofs.Ytoifejinppjeeaa.Eng
namespace Go.Proofs.Ytoifejinppjeeaa.Eng
open Go Go.RowKit
set_option linter.unusedVariables false
set_option linter.unusedSimpArgs false
section
variable {P : Program} {call : Cl → List AV → G → Option (AV × G)} {Nt N : Nat} {ds : List Deferred} {F : Nat → Prop} {ops : List Oper} {ancs : List Nat} {sg s1 : Nat → G} {st : Nat → T AV} {av : Nat → AV} {lg : Nat → Log} {ι0 : Io} {w0 w1 : World}
variable {ι ι' : Io} {listed : Array Bool} {a : Act} {w w' : World}
theorem Inv.step (hr : RegOK ops ancs) (tr : Trace P call Nt ops ancs 0 ops.length sg s1 st av lg) (fl : Flow ops ancs sg s1 lg) (ht : (sg 0).thr ≤ (sg 0).n) (hd0 : ∀ k l, (sg 0).H.get k = some l → k < (sg 0).n)
    (h : Inv P Nt ds N F ops ancs sg s1 st av ι0 w0 w1 ι listed a w) {i : Nat} {o : Oper} (ho : ops[i]? = some o) (hn : ¬ Did listed i) (ha : ∀ k, (ancs.getD i 0).testBit k = true → Did listed k)
    {v : Value} (hv : VR ι' (av i) v) (S : Step (Eng.own (sg i)) (s1 i) ι ι' w w') (Z : Sat (s1 i).n (FI sg s1 i) (s1 i) ι' w0 w') :
    Inv P Nt ds N F ops ancs sg s1 st av ι0 w0 w1 ι' (listed.setIfInBounds i true) (a.put o.dst v) w' := by
  have hi : i < ops.length := (List.getElem?_eq_some_iff.1 ho).1
  have hsz : i < listed.size := by rw [h.len]; exact hi
  have D : ∀ j, Did (listed.setIfInBounds i true) j ↔ j = i ∨ Did listed j := fun j => did_set hsz
  have hthr1 : (s1 i).thr = (sg i).n := (fl.mono i hi).thr
  have wrI : ∀ k, Wr (s1 i) k → k < (sg i).n → k ∈ (s1 i).wr := fun k hk hlt => by
    rcases hk with hk | hk
    · exact hk
    · rw [hthr1] at hk; omega
  have hnst := fl.n_step hi
  -- a name that operation i has not touched is as it was
  have same : ∀ k, ¬ Tch sg s1 i k → ι' k = ι k := fun k hk => by
    by_cases e : k < (sg i).n
    · rcases S.old k e with e2 | ⟨_, e2⟩
      · exact e2
      · exact absurd (.inl (wrI k e2 e)) hk
    · exact S.far k (by
        rcases Nat.lt_or_ge k (s1 i).n with e2 | e2
        · exact absurd (.inr ⟨by omega, e2⟩) hk
        · exact e2)
  -- a wide look at who waits for whom
  have sep : ∀ j, j < ops.length → j ≠ i → ¬ Did listed j → ∀ k, Tch sg s1 j k → Tch sg s1 i k → (ancs.getD j 0).testBit i = true := fun j hj hne hnd k h1 h2 => by
    rcases fl.near2 hj hi hne h1 h2 with e | e
    · exact e
    · exact absurd (ha j e) hnd
  have sep2 : ∀ j, j < ops.length → Did listed j → ∀ k, Tch sg s1 j k → Tch sg s1 i k → (ancs.getD i 0).testBit j = true := fun j hj hd k h1 h2 => by
    rcases fl.near2 hi hj (fun e => hn (e ▸ hd)) h2 h1 with e | e
    · exact e
    · exact absurd (h.closed j hj hd i e) hn
  refine ⟨by simp [h.len], fun j hj hdj k hk => ?_, by unfold Act.put; split <;> simp [h.size], by unfold Act.put; split <;> simp [h.defers], fun j p d hp hdj hd => ?_, fun t htf => ?_, Z.inj, Z.bnd, Z.bel, fun j hj hnj k h1 h2 => ?_, fun k h1 h2 => ?_, fun k j l hFk hj hC hl => ?_,
    h.le.tr S.le, fun k hk => ?_, fun k hk => ?_, fun k b m h1 h2 h3 => ?_, fun b hb hno => ?_, Nat.le_trans h.hsize S.size, S.os.trans h.os, S.tape.trans h.tape, S.output.trans h.output⟩
  · -- closed
    rcases (D j).1 hdj with e | e
    · subst e; exact (D k).2 (.inr (ha k hk))
    · exact (D k).2 (.inr (h.closed j hj e k hk))
  · -- done temporaries
    rcases (D j).1 hdj with e | e
    · subst e
      rw [ho] at hp; cases hp
      have hdn : d < a.tmps.size := by
        have hput := tr.put j _ (Nat.zero_le _) hi ho
        rw [putT_eq] at hput
        rw [hd] at hput
        dsimp only at hput
        split at hput
        · rename_i hlt; rw [h.size]; simpa [Nat.blt_eq] using hlt
        · cases hput
      have : (a.put o.dst v).eval (.tmp d) = v := by
        show (a.put o.dst v).tmps.getD d undef = v
        rw [hd]
        simp [Act.put, hdn]
      rw [this]
      exact hv
    · have hne : o.dst ≠ some d := fun e2 => by
        have := hr.one i j o p d ho hp e2 hd
        subst this
        exact hn e
      have : (a.put o.dst v).eval (.tmp d) = a.eval (.tmp d) := by
        show (a.put o.dst v).tmps.getD d undef = a.tmps.getD d undef
        unfold Act.put
        split
        · rename_i d' hd'
          have : d' ≠ d := fun e2 => hne (by rw [hd', e2])
          simp [Array.getElem?_setIfInBounds, this]
        · rfl
      rw [this]
      exact (h.tdone j p d hp e hd).mono S.le
  · -- free temporaries
    have hne : o.dst ≠ some t := htf i o ho ((D i).2 (.inl rfl))
    have : (a.put o.dst v).eval (.tmp t) = a.eval (.tmp t) := by
      show (a.put o.dst v).tmps.getD t undef = a.tmps.getD t undef
      unfold Act.put
      split
      · rename_i d' hd'
        have : d' ≠ t := fun e2 => hne (by rw [hd', e2])
        simp [Array.getElem?_setIfInBounds, this]
      · rfl
    rw [this]
    exact (h.tfree t fun j p hp hd => htf j p hp ((D j).2 (.inr hd))).mono S.le
  · -- names of those that have not been carried out
    have hne : j ≠ i := fun e => hnj ((D j).2 (.inl e))
    have hnd : ¬ Did listed j := fun e => hnj ((D j).2 (.inr e))
    rw [same k ?_]
    · exact h.un j hj hnd k h1 h2
    · intro hT
      have e := sep j hj hne hnd k (.inr ⟨h1, h2⟩) hT
      -- j waits for i: k, which j makes, was not there
      have hlt := hr.lt j _ i (List.getElem?_eq_getElem hj) e
      rcases hT with hT | hT
      · have := fl.rd_lt hi (fl.wr_rd hi hT)
        have := (fl.n_le (i := i) (j := j) (by omega) (by omega)).1
        omega
      · have := (fl.n_le (i := i + 1) (j := j) (by omega) (by omega)).1
        omega
  · rw [S.far k (by have := (fl.n_le (i := i + 1) (j := ops.length) (by omega) (by omega)).1; omega)]
    exact h.un2 k h1 h2
  · -- memory
    by_cases hT : Tch sg s1 i k
    · have hij : i < j := by
        rcases Nat.lt_or_ge i j with e | e
        · exact e
        · exact absurd hT (hC.2 i e hi ((D i).2 (.inl rfl)))
      have e : (sg j).H.get k = (sg (i + 1)).H.get k := fl.same ht hd0 hij hj fun m h1 h2 hTm => by
        rcases (D m).1 (hC.1 m h2 hTm) with e | e
        · omega
        · have := sep2 m (by omega) e k hTm hT
          have := hr.lt i o m ho this
          omega
      rw [e, hnst.2.2.2] at hl
      refine Z.rel k l ?_ hl
      rcases hT with hT | hT
      · exact .inr (.inl hT)
      · exact .inr (.inr hT.1)
    · obtain ⟨b, m, hk, hb⟩ := h.rel k j l hFk hj ⟨fun q hq hTq => by
        rcases (D q).1 (hC.1 q hq hTq) with e | e
        · subst e; exact absurd hTq hT
        · exact e, fun q h1 h2 hq => hC.2 q h1 h2 ((D q).2 (.inr hq))⟩ hl
      refine ⟨b, m, (same k hT).trans hk, hb.mono S.le (S.frame b (h.bnd k b m hk).2 fun k' m' hk' hw he => ?_)⟩
      have := h.inj k k' b m m' hk he
      subst this
      exact hT (.inl (wrI k hw hk'))
  · -- old names
    by_cases hT : Tch sg s1 i k
    · have h0 := (fl.n_le (i := 0) (j := i) (Nat.zero_le _) (by omega)).1
      rcases S.old k (by show k < (sg i).n; omega) with e | ⟨e, e2⟩
      · rw [e]
        rcases h.old k hk with e3 | ⟨e3, j, hj, hdj, hw⟩
        · exact .inl e3
        · exact .inr ⟨e3, j, hj, (D j).2 (.inr hdj), hw⟩
      · exact .inr ⟨e, i, hi, (D i).2 (.inl rfl), wrI k e2 (by omega)⟩
    · rw [same k hT]
      rcases h.old k hk with e3 | ⟨e3, j, hj, hdj, hw⟩
      · exact .inl e3
      · exact .inr ⟨e3, j, hj, (D j).2 (.inr hdj), hw⟩
  · rw [S.far k (by have := (fl.n_le (i := i + 1) (j := ops.length) (by omega) (by omega)).1; omega)]
    exact h.far k hk
  · -- new names
    have up : (w1.heap.size ≤ b ∨ ∃ k0 m0, (∃ j, j < ops.length ∧ Did listed j ∧ k0 ∈ (s1 j).wr) ∧ k0 < (sg 0).n ∧ ι0 k0 = .at_ b m0) → (w1.heap.size ≤ b ∨ ∃ k0 m0, (∃ j, j < ops.length ∧ Did (listed.setIfInBounds i true) j ∧ k0 ∈ (s1 j).wr) ∧ k0 < (sg 0).n ∧ ι0 k0 = .at_ b m0) := by
      rintro (e | ⟨k0, m0, ⟨j, e1, e2, e3⟩, e4, e5⟩)
      · exact .inl e
      · exact .inr ⟨k0, m0, ⟨j, e1, (D j).2 (.inr e2), e3⟩, e4, e5⟩
    have oldcase : ι' k = ι k → _ := fun e => up (h.newb k b m h1 h2 (e ▸ h3))
    by_cases e : k < (sg i).n
    · rcases S.old k e with e2 | ⟨e2, _⟩
      · exact oldcase e2
      · rw [h3] at e2; cases e2
    · by_cases e2 : k < (s1 i).n
      · rcases S.newb k b m (by show (sg i).n ≤ k; omega) e2 h3 with e3 | ⟨k0, m0, e3, e4, e5⟩
        · exact .inl (Nat.le_trans h.hsize e3)
        · have hk0 := wrI k0 e3 e4
          by_cases e6 : k0 < (sg 0).n
          · rcases h.old k0 e6 with e7 | ⟨e7, _⟩
            · exact .inr ⟨k0, m0, ⟨i, hi, (D i).2 (.inl rfl), hk0⟩, e6, e7 ▸ e5⟩
            · rw [e5] at e7; cases e7
          · have := (fl.n_le (i := i) (j := ops.length) (by omega) (by omega)).1
            exact up (h.newb k0 b m0 (by omega) (by have : k0 < (sg i).n := e4; omega) e5)
      · exact oldcase (S.far k (by omega))
  · -- blocks
    have e1 := h.frame b hb fun k m hk ⟨j, hj, hdj, hw⟩ => hno k m hk ⟨j, hj, (D j).2 (.inr hdj), hw⟩
    refine (S.frame b (Nat.lt_of_lt_of_le hb h.hsize) fun k m hk hw he => ?_).trans e1
    have hkw := wrI k hw hk
    by_cases e6 : k < (sg 0).n
    · rcases h.old k e6 with e7 | ⟨e7, _⟩
      · exact hno k m e6 ⟨i, hi, (D i).2 (.inl rfl), hkw⟩ (e7 ▸ he)
      · rw [he] at e7; cases e7
    · have hle := (fl.n_le (i := i) (j := ops.length) (by omega) (by omega)).1
      rcases h.newb k b m (by omega) (by have : k < (sg i).n := hk; omega) he with e7 | ⟨k0, m0, ⟨j, hj, hdj, hw0⟩, e8, e9⟩
      · omega
      · exact hno k0 m0 e8 ⟨j, hj, (D j).2 (.inr hdj), hw0⟩ e9
end
end Go.Proofs.Ytoifejinppjeeaa.Eng
namespace Go.Proofs.Ytoifejinppjeeaa.Eng
open Go Go.RowKit
set_option linter.unusedVariables false
set_option linter.unusedSimpArgs false
/-- How many have not been carried out. -/
def left_ (listed : Array Bool) (n : Nat) : Nat := (List.range n).countP fun i => !listed.getD i false
theorem left_set {listed : Array Bool} {n i : Nat} (hi : i < n) (hs : listed.size = n) (h : listed.getD i true = false) : left_ (listed.setIfInBounds i true) n + 1 = left_ listed n := by
  subst hs
  unfold left_
  have hil : listed.getD i false = false := by
    simpa [hi] using h
  have key : ∀ l : List Nat, l.Nodup → i ∈ l → (l.countP fun j => !(listed.setIfInBounds i true).getD j false) + 1 = l.countP fun j => !listed.getD j false := by
    intro l
    induction l with
    | nil => intro _ h; simp at h
    | cons x l ih =>
      intro hnd hm
      rw [List.nodup_cons] at hnd
      rw [List.countP_cons, List.countP_cons]
      by_cases hx : x = i
      · subst hx
        have e : (l.countP fun j => !(listed.setIfInBounds x true).getD j false) = l.countP fun j => !listed.getD j false := by
          apply List.countP_congr
          intro j hj
          have hne : x ≠ j := fun e => hnd.1 (by rw [e]; exact hj)
          simp [Array.getElem?_setIfInBounds, hne]
        rw [e]
        simp [hi] at hil ⊢
        simp [hil]
      · have hm' : i ∈ l := by
          rcases List.mem_cons.1 hm with h | h
          · exact absurd h.symm hx
          · exact h
        have := ih hnd.2 hm'
        have e : (listed.setIfInBounds i true).getD x false = listed.getD x false := by
          simp [Ne.symm hx]
        rw [e]
        omega
  exact key _ List.nodup_range (List.mem_range.2 hi)
theorem ready_nil {ops : List Oper} {ancs : List Nat} (hok : AncOK ops ancs) {listed : Array Bool} (hs : listed.size = ops.length) (h : Region.ready .any ops.toArray listed = []) :
    ∀ i o, ops[i]? = some o → listed.getD i false = true := by
  intro i
  induction i using Nat.strongRecOn with
  | ind i ih =>
    intro o ho
    by_cases hl : listed.getD i false = true
    · exact hl
    · exfalso
      have hi : i < ops.length := (List.getElem?_eq_some_iff.1 ho).1
      have hm : i ∈ Region.ready .any ops.toArray listed := mem_ready.2 ⟨by
        have : i < listed.size := by omega
        simpa [this] using hl, o, by simpa using ho, fun e he hb => by
          have hlt := hok.edge i o ho e he hb
          exact ih e.on hlt _ (List.getElem?_eq_getElem (show e.on < ops.length by omega))⟩
      rw [h] at hm
      cases hm
section
variable {ro : Option Nat} {P : Program} {call : Cl → List AV → G → Option (AV × G)} {Nt N : Nat} {ds : List Deferred} {F : Nat → Prop} {ops : List Oper} {ancs : List Nat} {sg s1 : Nat → G} {st : Nat → T AV} {av : Nat → AV} {lg : Nat → Log} {ι0 : Io} {w0 w1 : World} {Q : Exit → Act → World → Prop}
theorem Flow.mono1 (fl : Flow ops ancs sg s1 lg) {i : Nat} (hi : i < ops.length) : Mono (sg i) (sg (i + 1)) := by
  have hm := fl.mono i hi
  have e := fl.next i hi
  have hthr : (s1 i).thr = (sg i).n := hm.thr
  rw [e]
  refine ⟨hm.n, rfl, fun k hk => below?_mem.2 (.inl hk), fun k hk => below?_mem.2 (.inl hk), fun k hk => ?_, fun k hk => ?_, fun k hk hw => ?_, fun ht hd => hm.dom (Nat.le_refl _) hd⟩
  · rcases below?_mem.1 hk with h | ⟨_, h⟩
    · exact .inl h
    · exact .inr h
  · rcases below?_mem.1 hk with h | ⟨h, h2⟩
    · exact .inl h
    · exact .inr (below?_mem.2 (.inr ⟨fl.wr_rd hi h, h2⟩))
  · refine hm.habs k hk fun h => hw ?_
    rcases h with h | h
    · rcases Nat.lt_or_ge k (sg i).thr with h2 | h2
      · exact .inl (below?_mem.2 (.inr ⟨h, h2⟩))
      · exact .inr h2
    · rw [hthr] at h
      omega
theorem Flow.monos (fl : Flow ops ancs sg s1 lg) : ∀ {i j : Nat}, i ≤ j → j ≤ ops.length → Mono (sg i) (sg j) := by
  intro i j h
  induction h with
  | refl => intro _; exact Mono.refl _
  | step h ih =>
    intro hj
    exact (ih (by omega)).tr (fl.mono1 (by omega))
/-- What an operation wrote stands in the whole region's log, or is young. -/
theorem Flow.wrote (fl : Flow ops ancs sg s1 lg) {i k : Nat} (hi : i < ops.length) (hk : k ∈ (s1 i).wr) : Wr (sg ops.length) k := by
  have e := (fl.n_le (i := i) (j := ops.length) (by omega) (by omega)).2
  rcases Nat.lt_or_ge k (sg i).thr with h | h
  · refine .inl ((fl.monos (i := i + 1) (j := ops.length) (by omega) (by omega)).wr k ?_)
    rw [fl.next i hi]
    exact below?_mem.2 (.inr ⟨hk, h⟩)
  · exact .inr (by rw [e]; exact h)
theorem Flow.looked (fl : Flow ops ancs sg s1 lg) (hF : FOK F (sg ops.length)) {i k : Nat} (hi : i < ops.length) (hk : k ∈ (s1 i).rd) : F k := by
  have e := (fl.n_le (i := i) (j := ops.length) (by omega) (by omega)).2
  rcases Nat.lt_or_ge k (sg i).thr with h | h
  · refine hF.1 k ((fl.monos (i := i + 1) (j := ops.length) (by omega) (by omega)).rd k ?_)
    rw [fl.next i hi]
    exact below?_mem.2 (.inr ⟨hk, h⟩)
  · exact hF.2.2 k (by rw [e]; exact h)
theorem inv_wpAny (hng : noNumG P = true) (hc : CallOK P call) (hr : RegOK ops ancs) (tr : Trace P call Nt ops ancs 0 ops.length sg s1 st av lg) (fl : Flow ops ancs sg s1 lg) (ht : (sg 0).thr ≤ (sg 0).n) (hd0 : ∀ k l, (sg 0).H.get k = some l → k < (sg 0).n)
    (hF : FOK F (sg ops.length)) (hend : ∀ ι listed a w, Inv P Nt ds N F ops ancs sg s1 st av ι0 w0 w1 ι listed a w → (∀ i, i < ops.length → Did listed i) → Q .normal a w) :
    ∀ (fuel : Nat) (ι : Io) (listed : Array Bool) (a : Act) (w : World), left_ listed ops.length ≤ fuel → Inv P Nt ds N F ops ancs sg s1 st av ι0 w0 w1 ι listed a w → wpAnyIn (FW ro) 0 P .any ops.toArray Q fuel listed a w := by
  have fin : ∀ ι listed a w, Inv P Nt ds N F ops ancs sg s1 st av ι0 w0 w1 ι listed a w → Region.ready .any ops.toArray listed = [] → Q .normal a w := fun ι listed a w hI hn =>
    hend ι listed a w hI fun i hi => ready_nil hr.toAncOK hI.len hn i _ (List.getElem?_eq_getElem hi)
  intro fuel
  induction fuel with
  | zero =>
    intro ι listed a w hf hI
    have hn : Region.ready .any ops.toArray listed = [] := by
      apply List.eq_nil_iff_forall_not_mem.2
      intro i hi
      obtain ⟨h1, o, ho, _⟩ := mem_ready.1 hi
      have hi' : i < ops.length := by
        have := (Array.getElem?_eq_some_iff.1 ho).1
        simpa using this
      have := left_set hi' hI.len h1
      omega
    exact ⟨hn, fin ι listed a w hI hn⟩
  | succ fuel ih =>
    intro ι listed a w hfu hI
    refine ⟨fin ι listed a w hI, fun i hi => ?_⟩
    obtain ⟨hun, o, ho', hall⟩ := mem_ready.1 hi
    have ho : ops[i]? = some o := by simpa using ho'
    have hil : i < ops.length := (List.getElem?_eq_some_iff.1 ho).1
    have hnd : ¬ Did listed i := by
      unfold Did
      have : i < listed.size := by rw [hI.len]; exact hil
      simpa [this] using hun
    have hleft := left_set hil hI.len hun
    have ha : ∀ k, (ancs.getD i 0).testBit k = true → Did listed k := fun k hk => by
      obtain ⟨e, he, hb, r⟩ := (hr.bit i o ho k).1 hk
      have h1 := hall e he hb
      have h2 := hr.edge i o ho e he hb
      rcases r with r | r
      · subst r; exact h1
      · exact hI.closed e.on (by omega) h1 k r
    have hone := tr.one i o (Nat.zero_le _) hil ho
    have hsat := hI.sat fl ht hd0 (fun j hj k hk => fl.looked hF hj hk) hil hnd ha
    have hFI : FOK (FI sg s1 i) (s1 i) := ⟨fun k hk => .inl hk, fun k hk => .inr (.inl hk), fun k hk => .inr (.inr (by
      have : (s1 i).thr = (sg i).n := (fl.mono i hil).thr
      rw [this] at hk
      exact hk))⟩
    have := evOne_ok (ro := ro) (K := wpAnyIn (FW ro) 0 P .any ops.toArray Q fuel (listed.setIfInBounds i true)) (Q := Q) hng hc hone (hI.uses hr tr ho hnd ha) (Nat.le_refl _) hFI hsat (Nat.le_refl _) (fun ι' v w' hv S Z =>
      ih ι' _ _ _ (by omega) (hI.step hr tr fl ht hd0 ho hnd ha hv S Z))
    unfold wpOpIn
    rw [ho']
    dsimp only
    split
    · rename_i hw
      rw [if_pos hw] at this
      exact this
    · rename_i hw
      rw [if_neg hw] at this
      exact ⟨fun _ _ => trivial, this⟩
theorem evDraw_mono (hc : CallOK P call) {tm tm' : T AV} {g g' : G} (hr : drawOK ops = some ancs) (h : evDraw P call Nt ops ops ancs [] tm g = some (tm', g')) : Mono g g' := by
  obtain ⟨sg, s1, st, av, lg, tr, e1, e2, e3, e4, _⟩ := trace_of (ops := ops) (ancs := ancs) ops ancs [] tm g 0 (fun j => by simp) (fun j => by simp) rfl h
  rw [Nat.zero_add] at tr e3 e4
  have := (tr.flow hc).monos (Nat.zero_le ops.length) (Nat.le_refl _)
  rw [e1, e3] at this
  exact this
theorem evDraw_ok (hng : noNumG P = true) (hm : P.follows .mixedOrders = true) (hc : CallOK P call) {tm tm' : T AV} {g g' : G} {ι : Io} {a : Act} {w : World} {id : Nat} (hr : drawOK ops = some ancs) (h : evDraw P call Nt ops ops ancs [] tm g = some (tm', g'))
    (hN : g'.n ≤ N) (hF : FOK F g') (ht : TR ι Nt ds tm a) (hs : Sat N F g ι w0 w) (hthr : g.thr ≤ g.n) (hQ : ∀ ι' a' w', TR ι' Nt ds tm' a' → Step g g' ι ι' w w' → Sat N F g' ι' w0 w' → Q .normal a' w') :
    (Code.region id ops.toArray true).wpIn (FW ro) 0 P Q a w := by
  obtain ⟨sg, s1, st, av, lg, tr, e1, e2, e3, e4, _⟩ := trace_of (ops := ops) (ancs := ancs) ops ancs [] tm g 0 (fun j => by simp) (fun j => by simp) rfl h
  rw [Nat.zero_add] at tr e3 e4
  have fl := tr.flow hc
  have hreg := drawOK_ok hr
  subst e1
  subst e2
  subst e3
  subst e4
  have hd0 := hs.dom
  have hmono := fl.monos (Nat.zero_le ops.length) (Nat.le_refl _)
  refine wpIn_region_any hm ?_
  refine inv_wpAny (ro := ro) (ds := ds) (w1 := w) (ι0 := ι) (N := N) (w0 := w0) hng hc hreg tr fl hthr hd0 hF (fun ι' listed a' w' hI hall => ?_) _ ι _ a _ ?_ ?_
  · refine hQ ι' a' w' ⟨hI.size, hI.defers, fun t => ?_⟩ ⟨hmono.n, hmono.thr, hmono.rd, hmono.wr, hI.le, fun k hk => ?_, hI.far, fun k b m h1 h2 h3 => ?_, hmono.habs, fun b hb hno => hI.frame b hb fun k m hk ⟨j, hj, _, hw⟩ => hno k m hk (fl.wrote hj hw), hI.hsize, hI.os, hI.tape, hI.output⟩
      ⟨hI.inj, hI.bnd, hI.un2, fl.dom hthr hd0 _ (Nat.le_refl _), fun k l hk hl => hI.rel k ops.length l hk (Nat.le_refl _) ⟨fun j hj _ => hall j hj, fun j h1 h2 _ _ => by omega⟩ hl, hI.bel⟩
    · by_cases hex : ∃ (j : Nat) (p : Oper), ops[j]? = some p ∧ p.dst = some t
      · obtain ⟨j, p, hp, hd⟩ := hex
        have hj : j < ops.length := (List.getElem?_eq_some_iff.1 hp).1
        rw [st_touched hreg tr hp hd _ (Nat.le_refl _) hj]
        exact hI.tdone j p t hp (hall j hj) hd
      · rw [st_untouched hreg tr t _ (Nat.le_refl _) fun q r _ hr' he => hex ⟨q, r, hr', he⟩]
        exact hI.tfree t fun q r hr' _ he => hex ⟨q, r, hr', he⟩
    · rcases hI.old k hk with e | ⟨e, j, hj, _, hw⟩
      · exact .inl e
      · exact .inr ⟨e, fl.wrote hj hw⟩
    · rcases hI.newb k b m h1 h2 h3 with e | ⟨k0, m0, ⟨j, hj, _, hw⟩, e4, e5⟩
      · exact .inl e
      · exact .inr ⟨k0, m0, fl.wrote hj hw, e4, e5⟩
  · simp [left_]
    exact Nat.le_trans List.countP_le_length (by simp)
  · have hno : ∀ i, ¬ Did (Array.replicate ops.toArray.size false) i := fun i hd => by
      unfold Did at hd
      by_cases h : i < ops.length <;> simp [h] at hd
    refine ⟨by simp, fun i _ hd => absurd hd (hno i), ht.size, ht.defers, fun i o d _ hd => absurd hd (hno i), fun t _ => ht.rel t, hs.inj, hs.bnd, ?_, fun i hi _ k h1 h2 => hs.un k ?_ ?_, fun k h1 h2 => hs.un k ?_ h2, fun k i l hk hi hC hl => ?_, Le.refl _, fun k _ => .inl rfl, fun k _ => rfl, fun k b m h1 h2 h3 => ?_, fun b _ _ => rfl, Nat.le_refl _, rfl, rfl, rfl⟩
    · exact ⟨hs.bel.os, hs.bel.tape, hs.bel.output, hs.bel.size, hs.bel.block⟩
    · have := (fl.n_le (i := 0) (j := i) (Nat.zero_le _) (by omega)).1
      omega
    · have h3 := fl.n_step hi
      have := (fl.n_le (i := i + 1) (j := ops.length) (by omega) (by omega)).1
      omega
    · have := (fl.n_le (i := 0) (j := ops.length) (Nat.zero_le _) (by omega)).1
      omega
    · have e := fl.same hthr hd0 (k := k) (Nat.zero_le i) hi fun m _ h2 hT => hno m (hC.1 m h2 hT)
      rw [e] at hl
      exact hs.rel k l hk hl
    · have := hs.un k h1 (by omega)
      rw [this] at h3
      cases h3
end
end Go.Proofs.Ytoifejinppjeeaa.Eng
namespace Go.Proofs.Ytoifejinppjeeaa.Eng
open Go Go.RowKit
set_option linter.unusedVariables false
set_option linter.unusedSimpArgs false
def Ex.to : Ex → Exit
  | .normal => .normal
  | .exit id => .exit id
  | .ret => .ret
/-- A scope that no goto leaves. -/
theorem stepR_scope {P : Program} {b : Frame} {a : Act} {k : List Item} {cs : List Frame} {w : World} {c : Code} : step P (lone (b.atR a (.code (.scope c) :: k)) cs w) = .next (lone (b.atR a (.code c :: .inScope c :: k)) cs w) :=
  step_lone_go (by simp [stepG, stepG.exec, Frame.atR])
theorem stepR_inScope {P : Program} {b : Frame} {a : Act} {k : List Item} {cs : List Frame} {w : World} {c : Code} : step P (lone (b.atR a (.inScope c :: k)) cs w) = .next (lone (b.atR a k) cs w) :=
  step_lone_go (by simp [stepG, stepG.exec, Frame.atR])
theorem wpIn_scope_straight {F : Fence} {n : Nat} {P : Program} {Q : Exit → Act → World → Prop} {a : Act} {w : World} {c : Code} (h : c.wpIn F n P (Exit.noGoto Q) a w) : (Code.scope c).wpIn F n P Q a w := by
  intro b k cs hro hb hr
  have h0 : (lone (b.atR a (.code (.scope c) :: k)) cs w).fenced P F := fenced_calm hb hr rfl
  obtain ⟨e, a₁, w₁, hq, harr⟩ := h b (.inScope c :: k) cs hro hb hr
  cases e with
  | normal => exact ⟨.normal, a₁, w₁, hq, .head h0 stepR_scope (StepsIn.trans harr (.one (fenced_calm hb hr rfl) stepR_inScope))⟩
  | exit id =>
    have hx : exitTo id (.inScope c :: k) = exitTo id k := by simp [exitTo]
    exact ⟨.exit id, a₁, w₁, hq, fun k' hk => .head h0 stepR_scope (harr.1 k' (by rw [hx]; exact hk)),
      fun hr' hk => let ⟨k₁, h1, h2⟩ := harr.2 hr' (by rw [hx]; exact hk); ⟨k₁, h1, .head h0 stepR_scope h2⟩⟩
  | goto l => exact hq.elim
  | ret => exact ⟨_, a₁, w₁, hq, .of_steps (.one h0 stepR_scope) harr⟩
  | panic ch => exact ⟨_, a₁, w₁, hq, .of_steps (.one h0 stepR_scope) harr⟩
  | outgrown => exact ⟨_, a₁, w₁, hq, .of_steps (.one h0 stepR_scope) harr⟩
/-- Marks among the deferred calls. -/
def MK (ι : Io) : List Nat → List Deferred → Prop
  | [], ds => ds = []
  | k :: ks, ds => ∃ D ds', ds = { target := .collected D, args := #[] } :: ds' ∧ (ι k).is D ∧ MK ι ks ds'
theorem MK.mono {ι ι' : Io} (hl : Le ι ι') : ∀ {mk : List Nat} {ds : List Deferred}, MK ι mk ds → MK ι' mk ds
  | [], ds, h => h
  | k :: ks, ds, h => by
    obtain ⟨D, ds', e, hk, h⟩ := h
    exact ⟨D, ds', e, hl.is hk, h.mono hl⟩
theorem Le.keep {ι ι' : Io} (h : Le ι ι') {k b m b' m' : Nat} (h1 : ι k = .at_ b m) (h2 : ι' k = .at_ b' m') : b' = b := by
  rcases h k with e | e | e
  · rw [h1] at e; cases e
  · rw [h2, h1] at e; cases e; rfl
  · rw [h2] at e; cases e
theorem is_at {ι : Io} {k b b' m : Nat} (h : (ι k).is b) (h1 : ι k = .at_ b' m) : b = b' := by
  rcases h with e | ⟨m', e⟩
  · rw [h1] at e; cases e
  · rw [h1] at e; cases e; rfl
theorem Sat.cut {N : Nat} {F : Nat → Prop} {g : G} {ι : Io} {w0 w : World} (h : Sat N F g ι w0 w) : Sat N F g ι w0 w := h
section
variable {P : Program} {call : Cl → List AV → G → Option (AV × G)} {Nt : Nat}
/-- An evaluation of code (or of a loop's body) is the model's. -/
def BodyOK (P : Program) (Nt : Nat) (ev : T AV → List Nat → G → Option (Ex × T AV × List Nat × G)) (wpc : (Exit → Act → World → Prop) → Act → World → Prop) : Prop :=
  ∀ tm mk g e tm' mk' g', ev tm mk g = some (e, tm', mk', g') → Mono g g' ∧ ∀ N F w0 ι ds a w Q, g'.n ≤ N → FOK F g' → TR ι Nt ds tm a → MK ι mk ds → Sat N F g ι w0 w → g.thr ≤ g.n →
    (∀ ι' ds' a' w', TR ι' Nt ds' tm' a' → MK ι' mk' ds' → Step g g' ι ι' w w' → Sat N F g' ι' w0 w' → Q e.to a' w') → wpc Q a w
theorem loop_ok {ro : Option Nat} {c : Code} {body : T AV → List Nat → G → Option (Ex × T AV × List Nat × G)} (hb : BodyOK P Nt body fun Q a w => c.wpIn (FW ro) 0 P Q a w) : ∀ n, BodyOK P Nt (evCode.evLoop body n) fun Q a w => Code.roundsIn (FW ro) 0 P c Q n a w
  | 0, tm, mk, g, e, tm', mk', g', h => by simp [evCode.evLoop] at h
  | n + 1, tm, mk, g, e, tm', mk', g', h => by
    simp only [evCode.evLoop] at h
    split at h
    · rename_i tm1 mk1 g1 hbody
      obtain ⟨m1, h1⟩ := hb _ _ _ _ _ _ _ hbody
      obtain ⟨m2, h2⟩ := loop_ok hb n _ _ _ _ _ _ _ h
      refine ⟨m1.tr m2, fun N F w0 ι ds a w Q hN hF ht hm hs hthr hQ => ?_⟩
      show Code.roundsIn (FW ro) 0 P c Q (n + 1) a w
      rw [roundsIn_succ]
      refine h1 N F w0 ι ds a w _ (Nat.le_trans m2.n hN) (m2.fok hF) ht hm hs hthr fun ι' ds' a' w' ht' hm' st sat => ?_
      exact h2 N F w0 ι' ds' a' w' Q hN hF ht' hm' sat (by rw [m1.thr]; exact Nat.le_trans hthr m1.n) fun ι2 ds2 a2 w2 t2 k2 st2 sat2 => hQ ι2 ds2 a2 w2 t2 k2 (st.trans st2) sat2
    · rename_i hne
      obtain ⟨m1, h1⟩ := hb _ _ _ _ _ _ _ h
      refine ⟨m1, fun N F w0 ι ds a w Q hN hF ht hm hs hthr hQ => ?_⟩
      show Code.roundsIn (FW ro) 0 P c Q (n + 1) a w
      rw [roundsIn_succ]
      refine h1 N F w0 ι ds a w _ hN hF ht hm hs hthr fun ι' ds' a' w' ht' hm' st sat => ?_
      have := hQ ι' ds' a' w' ht' hm' st sat
      cases e with
      | normal => exact (hne _ _ _ h).elim
      | exit id => exact this
      | ret => exact this
theorem stTo_busy {st : Nat} (h : Nat.beq st 1 = false) : stTo st ≠ .busy := by
  match st with
  | 0 => simp [stTo]
  | 1 => simp at h
  | 2 => simp [stTo]
  | n + 3 => simp [stTo]
/-- A block that holds no cells turns. -/
theorem writeX_ok {N : Nat} {F : Nat → Prop} {g g' : G} {ι : Io} {w0 w : World} {k b m : Nat} {a a0 : AV} {o : Obj} (h : g.write k (some (.odd a)) = some g') (hF : FOK F g') (hs : Sat N F g ι w0 w) (h0 : g.H.get k = some (.odd a0)) (hk : ι k = .at_ b m)
    (hb : BS ι (w.putObj b o) b a) : Step g g' ι ι w (w.putObj b o) ∧ Sat N F g' ι w0 (w.putObj b o) ∧ g'.n = g.n :=
  write_ok h hF hs h0 hk hb (by simp) rfl rfl rfl (fun d hd => World.putObj_heap_other hd)
theorem newX_ok {N : Nat} {F : Nat → Prop} {g g' : G} {ι : Io} {w0 w : World} {k : Nat} {a : AV} {o : Obj} (h : g.new (.odd a) = some (k, g')) (hN : g'.n ≤ N) (hF : FOK F g') (hs : Sat N F g ι w0 w) (hb : BS ι (w.alloc o) w.heap.size a) :
    ∃ ι', Step g g' ι ι' w (w.alloc o) ∧ Sat N F g' ι' w0 (w.alloc o) ∧ ι' k = .at_ w.heap.size 0 ∧ Le ι ι' :=
  new_okX h hN hF hs (m := 0) hb (show (w.heap.push _).size = _ by simp) rfl rfl rfl (fun d hd => heap_alloc_lt w _ hd)
theorem evEnd_ok {kl jump : Nat} {g g' : G} (h : evEnd kl g = some (jump, g')) : Mono g g' ∧ ∀ N F w0 ι w l, FOK F g' → Sat N F g ι w0 w → (ι kl).is l →
    ∃ w', (Instr.endLoop l).run P w = .ok (jumpC jump) w' ∧ Step g g' ι ι w w' ∧ Sat N F g' ι w0 w' := by
  unfold evEnd at h
  split at h
  · rename_i st jump' nt tm ps asg bd g1 hr
    split at h
    · cases h
    · rename_i hst
      split at h
      · rename_i g2 hw
        cases h
        refine ⟨(Mono.readX hr).tr (Mono.write hw), fun N F w0 ι w l hF hs hl => ?_⟩
        obtain ⟨h1, ⟨b, m', h2, h3⟩, st1, sat1, e1, _⟩ := readX_ok hr ((Mono.write hw).fok hF) hs
        obtain rfl := is_at hl h2
        obtain ⟨r, hr1, hr2, hr3, hr4, hr5, hr6, hr7⟩ := h3
        refine ⟨w.putObj l (.loop { r with state := .exhausted }), by rw [← hr3]; exact run_endLoop hr1 (by rw [hr2]; exact stTo_busy hst), ?_⟩
        have hlt : l < w.heap.size := (Array.getElem?_eq_some_iff.1 hr1).1
        obtain ⟨st2, sat2, _⟩ := writeX_ok (o := .loop { r with state := .exhausted }) hw hF sat1 (by rw [e1]; exact h1) h2 trivial
        exact ⟨st1.trans st2, sat2⟩
      · cases h
  · cases h
theorem evRange_ok (hng : noNumG P = true) (hc : CallOK P call) {f : AV} {tm : T AV} {ps : List Nat} {asg bd : Code} {kd kl jump : Nat} {g g1 g' : G} {gop : Operand} {aps : Array Tmp} (haps : aps = ps.toArray)
    (h : evRange P call Nt f tm ps asg bd g = some (kd, kl, g1)) (he : evEnd kl g1 = some (jump, g')) :
    Mono g g' ∧ ∀ N F w0 ι ds (a : Act) w (Q : Exit → Act → World → Prop) mk, g'.n ≤ N → FOK F g' → TR ι Nt ds tm a → MK ι mk ds → Sat N F g ι w0 w → g.thr ≤ g.n → VR ι f (a.eval gop) →
      (∀ ι' ds' a' w', TR ι' Nt ds' tm a' → MK ι' (kd :: mk) ds' → Step g g' ι ι' w w' → Sat N F g' ι' w0 w' → Q (jumpOf jump).to a' w') → (Code.rangeFunc gop aps asg bd).wpIn (FW none) 0 P Q a w := by
  subst haps
  unfold evRange at h
  split at h
  · cases h
  rename_i kd' ga hnd
  split at h
  · cases h
  rename_i kl' gb hnl
  split at h
  · rename_i fn args gc hcal
    split at h
    · rename_i av gd hcall
      cases h
      have e0 : gc = gb := by
        unfold evCall_ at hcal
        repeat' split at hcal
        all_goals try rw [forceV_eq] at hcal
        all_goals first
          | (cases hcal; done)
          | (cases hcal; rfl)
      subst e0
      obtain ⟨m5, h5⟩ := evEnd_ok (P := P) he
      obtain ⟨m4, h4⟩ := hc _ _ _ _ _ hcall
      have m1 := Mono.new hnd
      have m2 := Mono.new hnl
      refine ⟨((m1.tr m2).tr m4).tr m5, fun N F w0 ι ds a w Q mk hN hF ht hm hs hthr hf hQ => ?_⟩
      refine wpIn_rangeFunc fun fnn _ => ?_
      have hF4 := m5.fok hF
      have hF2 := m4.fok hF4
      have hN4 := Nat.le_trans m5.n hN
      have hN2 := Nat.le_trans m4.n hN4
      obtain ⟨ι1, st1, sat1, hk1, le1⟩ := newX_ok (o := .deferred (some [])) hnd (Nat.le_trans m2.n hN2) (m2.fok hF2) hs (by
        show (w.alloc _).heap[w.heap.size]? = _
        rw [heap_alloc_at]; rfl)
      have ht1 := ht.mono le1
      obtain ⟨ι2, st2, sat2, hk2, le2⟩ := newX_ok (o := .loop { state := .ready, pending := none, fn := fnn, tmps := a.tmps, params := ps.toArray, assign := asg, body := bd, defers := w.heap.size }) hnl hN2 hF2 sat1
        ⟨_, heap_alloc_at _ _, rfl, rfl, rfl, rfl, rfl, ht1.size, ht1.rel⟩
      have hsz : (w.alloc (.deferred (some []))).heap.size = w.heap.size + 1 := World.size_alloc _ _
      rw [hsz] at hk2
      have hy : VR ι2 (.yl kl) (.func (.yield (w.heap.size + 1)) #[] #[]) := by
        rw [VR]
        exact ⟨_, rfl, .inr ⟨_, hk2⟩⟩
      have hf2 : VR ι2 f (a.eval gop) := (hf.mono le1).mono le2
      obtain ⟨_, us, hu, hrun⟩ := callee_call hng (vs := [.func (.yield (w.heap.size + 1)) #[] #[]]) hcal hf2 (by rw [VRL]; exact ⟨_, _, rfl, hy, by rw [VRL]⟩)
      have hr := hrun ((w.alloc (.deferred (some []))).alloc (.loop { state := .ready, pending := none, fn := fnn, tmps := a.tmps, params := ps.toArray, assign := asg, body := bd, defers := w.heap.size }))
      rw [Sem.run_bind] at hr
      have hres : ∃ d w1', (Deferred.ofValue (a.eval gop) #[.func (.yield (w.heap.size + 1)) #[] #[]]).run P ((w.alloc (.deferred (some []))).alloc (.loop { state := .ready, pending := none, fn := fnn, tmps := a.tmps, params := ps.toArray, assign := asg, body := bd, defers := w.heap.size })) = .ok d w1' ∧
          (invoke d.target d.args).run P w1' = .ok (.enter fn us.toArray) ((w.alloc (.deferred (some []))).alloc (.loop { state := .ready, pending := none, fn := fnn, tmps := a.tmps, params := ps.toArray, assign := asg, body := bd, defers := w.heap.size })) := by
        cases hd : (Deferred.ofValue (a.eval gop) [Value.func (.yield (w.heap.size + 1)) #[] #[]].toArray).run P ((w.alloc (.deferred (some []))).alloc (.loop { state := .ready, pending := none, fn := fnn, tmps := a.tmps, params := ps.toArray, assign := asg, body := bd, defers := w.heap.size })) with
        | ok d w1' => rw [hd] at hr; exact ⟨d, w1', rfl, hr⟩
        | halt x w1' => rw [hd] at hr; simp [Result.andThen] at hr
      obtain ⟨d, w1', hd1, hd2⟩ := hres
      refine ⟨w.heap.size + 1, [{ target := .collected w.heap.size, args := #[] }], _, d, w1', fn, us.toArray, _, run_enterLoop_outer _ _ _ _ _, ?_, fun _ _ => trivial, hd2, fun h => (by cases h), ?_⟩
      · have e : (#[Operand.const (Value.func (Fn.yield (w.heap.size + 1)) #[] #[])].map a.eval) = #[Value.func (Fn.yield (w.heap.size + 1)) #[] #[]] := by simp [Act.eval]
        simp only [resolve]
        rw [e]
        exact hd1
      · have hcl : CallsIn Fence.wide 0 P fn us.toArray _ _ := h4 N F w0 ι2 _ us hN4 hF4 sat2 (by rw [m2.thr, m1.thr]; exact Nat.le_trans hthr (Nat.le_trans m1.n m2.n)) hu
        refine CallsIn.mono (F := FW none) hcl ?_
        rintro e w3 ⟨ι3, v, rfl, hv, st3, sat3⟩
        obtain ⟨w4, hr4, st4, sat4⟩ := h5 N F w0 ι3 w3 _ hF sat3 (st3.le.is (.inr ⟨_, hk2⟩))
        refine ⟨jumpC jump, w4, hr4, ?_⟩
        have stA := ((st1.trans st2).trans st3).trans st4
        have hle : Le ι ι3 := (le1.tr le2).tr st3.le
        have hfin := hQ ι3 ({ target := .collected w.heap.size, args := #[] } :: ds) { a with defers := [{ target := .collected w.heap.size, args := #[] }] ++ a.defers } w4
          ⟨ht.size, by rw [ht.defers]; rfl, fun t => (ht.mono hle).rel t⟩ ⟨_, _, rfl, (le2.tr st3.le).is (.inr ⟨_, hk1⟩), hm.mono hle⟩ stA sat4
        match jump, hfin with
        | 0, hfin => exact hfin
        | 1, hfin => exact wpIn_ret hfin
        | j + 2, hfin => exact wpIn_exit hfin
    · cases h
  · cases h
theorem code_ok (hng : noNumG P = true) (hm : P.follows .mixedOrders = true) (hc : CallOK P call) (lf : Nat) (ro : Option Nat) : ∀ c : Code, BodyOK P Nt (evCode P call Nt lf ro.isSome c) fun Q a w => c.wpIn (FW ro) 0 P Q a w
  | .skip, tm, mk, g, e, tm', mk', g', h => by
    simp [evCode] at h
    obtain ⟨rfl, rfl, rfl, rfl⟩ := h
    exact ⟨Mono.refl _, fun N F w0 ι ds a w Q hN hF ht hk hs hthr hQ => wpIn_skip (hQ ι ds a w ht hk (Step.refl _ _ _) hs)⟩
  | .label l, tm, mk, g, e, tm', mk', g', h => by
    simp [evCode] at h
    obtain ⟨rfl, rfl, rfl, rfl⟩ := h
    exact ⟨Mono.refl _, fun N F w0 ι ds a w Q hN hF ht hk hs hthr hQ => wpIn_label (hQ ι ds a w ht hk (Step.refl _ _ _) hs)⟩
  | .region id ops draw, tm, mk, g, e, tm', mk', g', h => by
    simp only [evCode] at h
    split at h
    · split at h
      · rename_i tm1 g1 hev
        cases h
        refine ⟨evOps_mono hc _ hev, fun N F w0 ι ds a w Q hN hF ht hk hs hthr hQ => ?_⟩
        refine wpIn_region ?_
        have := evOps_ok (ro := ro) (ds := ds) (Q := Q) hng hc hN hF ops.toList 0 (fun j => by simp) hev ht hs hthr (fun ι' a' w' t' st sat => hQ ι' ds a' w' t' (hk.mono st.le) st sat)
        rw [← List.range_eq_range'] at this
        simpa using this
      · cases h
    · split at h
      · rename_i ancs hr
        split at h
        · rename_i tm1 g1 hev
          cases h
          refine ⟨evDraw_mono hc hr hev, fun N F w0 ι ds a w Q hN hF ht hk hs hthr hQ => ?_⟩
          have := evDraw_ok (ro := ro) (ds := ds) (Q := Q) (id := id) hng hm hc hr hev hN hF ht hs hthr (fun ι' a' w' t' st sat => hQ ι' ds a' w' t' (hk.mono st.le) st sat)
          simpa using this
        · cases h
      · cases h
  | .seq x y, tm, mk, g, e, tm', mk', g', h => by
    simp only [evCode] at h
    split at h
    · rename_i tm1 mk1 g1 hx
      obtain ⟨m1, h1⟩ := code_ok hng hm hc lf ro x _ _ _ _ _ _ _ hx
      obtain ⟨m2, h2⟩ := code_ok hng hm hc lf ro y _ _ _ _ _ _ _ h
      refine ⟨m1.tr m2, fun N F w0 ι ds a w Q hN hF ht hk hs hthr hQ => ?_⟩
      refine wpIn_seq (h1 N F w0 ι ds a w _ (Nat.le_trans m2.n hN) (m2.fok hF) ht hk hs hthr fun ι' ds' a' w' ht' hk' st sat => ?_)
      exact h2 N F w0 ι' ds' a' w' Q hN hF ht' hk' sat (by rw [m1.thr]; exact Nat.le_trans hthr m1.n) fun ι2 ds2 a2 w2 t2 k2 st2 sat2 => hQ ι2 ds2 a2 w2 t2 k2 (st.trans st2) sat2
    · rename_i hne
      obtain ⟨m1, h1⟩ := code_ok hng hm hc lf ro x _ _ _ _ _ _ _ h
      refine ⟨m1, fun N F w0 ι ds a w Q hN hF ht hk hs hthr hQ => ?_⟩
      refine wpIn_seq (h1 N F w0 ι ds a w _ hN hF ht hk hs hthr fun ι' ds' a' w' ht' hk' st sat => ?_)
      have := hQ ι' ds' a' w' ht' hk' st sat
      cases e with
      | normal => exact (hne _ _ _ h).elim
      | exit id => exact this
      | ret => exact this
  | .cond c x y, tm, mk, g, e, tm', mk', g', h => by
    simp only [evCode] at h
    split at h
    · rename_i hcd
      obtain ⟨m1, h1⟩ := code_ok hng hm hc lf ro x _ _ _ _ _ _ _ h
      refine ⟨m1, fun N F w0 ι ds a w Q hN hF ht hk hs hthr hQ => ?_⟩
      have hv := ht.all c
      rw [hcd, VR] at hv
      exact wpIn_cond_true hv (h1 N F w0 ι ds a w Q hN hF ht hk hs hthr hQ)
    · rename_i hcd
      obtain ⟨m1, h1⟩ := code_ok hng hm hc lf ro y _ _ _ _ _ _ _ h
      refine ⟨m1, fun N F w0 ι ds a w Q hN hF ht hk hs hthr hQ => ?_⟩
      have hv := ht.all c
      rw [hcd, VR] at hv
      exact wpIn_cond_false hv (h1 N F w0 ι ds a w Q hN hF ht hk hs hthr hQ)
    · cases h
  | .block id c, tm, mk, g, e, tm', mk', g', h => by
    simp only [evCode] at h
    split at h
    · rename_i id' tm1 mk1 g1 hx
      obtain ⟨m1, h1⟩ := code_ok hng hm hc lf ro c _ _ _ _ _ _ _ hx
      split at h
      · rename_i hid
        obtain rfl : id' = id := beq_tt hid
        cases h
        refine ⟨m1, fun N F w0 ι ds a w Q hN hF ht hk hs hthr hQ => wpIn_block (h1 N F w0 ι ds a w _ hN hF ht hk hs hthr fun ι' ds' a' w' ht' hk' st sat => ?_)⟩
        show Exit.inBlock id' Q (.exit id') a' w'
        simp only [Exit.inBlock, if_true]
        exact hQ ι' ds' a' w' ht' hk' st sat
      · rename_i hid
        cases h
        refine ⟨m1, fun N F w0 ι ds a w Q hN hF ht hk hs hthr hQ => wpIn_block (h1 N F w0 ι ds a w _ hN hF ht hk hs hthr fun ι' ds' a' w' ht' hk' st sat => ?_)⟩
        show Exit.inBlock id Q (.exit id') a' w'
        simp only [Exit.inBlock]
        rw [if_neg (fun e => by rw [e] at hid; simp at hid)]
        exact hQ ι' ds' a' w' ht' hk' st sat
    · rename_i hne
      obtain ⟨m1, h1⟩ := code_ok hng hm hc lf ro c _ _ _ _ _ _ _ h
      refine ⟨m1, fun N F w0 ι ds a w Q hN hF ht hk hs hthr hQ => wpIn_block (h1 N F w0 ι ds a w _ hN hF ht hk hs hthr fun ι' ds' a' w' ht' hk' st sat => ?_)⟩
      have := hQ ι' ds' a' w' ht' hk' st sat
      cases e with
      | normal => exact this
      | exit id' => exact (hne _ _ _ _ h).elim
      | ret => exact this
  | .loop c, tm, mk, g, e, tm', mk', g', h => by
    simp only [evCode] at h
    obtain ⟨m1, h1⟩ := loop_ok (code_ok hng hm hc lf ro c) lf _ _ _ _ _ _ _ h
    exact ⟨m1, fun N F w0 ι ds a w Q hN hF ht hk hs hthr hQ => wpIn_loop_rounds lf (h1 N F w0 ι ds a w Q hN hF ht hk hs hthr hQ)⟩
  | .exit id, tm, mk, g, e, tm', mk', g', h => by
    simp [evCode] at h
    obtain ⟨rfl, rfl, rfl, rfl⟩ := h
    exact ⟨Mono.refl _, fun N F w0 ι ds a w Q hN hF ht hk hs hthr hQ => wpIn_exit (hQ ι ds a w ht hk (Step.refl _ _ _) hs)⟩
  | .scope c, tm, mk, g, e, tm', mk', g', h => by
    simp only [evCode] at h
    obtain ⟨m1, h1⟩ := code_ok hng hm hc lf ro c _ _ _ _ _ _ _ h
    refine ⟨m1, fun N F w0 ι ds a w Q hN hF ht hk hs hthr hQ => wpIn_scope_straight (h1 N F w0 ι ds a w _ hN hF ht hk hs hthr fun ι' ds' a' w' ht' hk' st sat => ?_)⟩
    have := hQ ι' ds' a' w' ht' hk' st sat
    cases e <;> exact this
  | .ret, tm, mk, g, e, tm', mk', g', h => by
    simp [evCode] at h
    obtain ⟨rfl, rfl, rfl, rfl⟩ := h
    exact ⟨Mono.refl _, fun N F w0 ι ds a w Q hN hF ht hk hs hthr hQ => wpIn_ret (hQ ι ds a w ht hk (Step.refl _ _ _) hs)⟩
  | .rangeFunc f ps asg bd, tm, mk, g, e, tm', mk', g', h => by
    simp only [evCode] at h
    cases ro with
    | some l => simp at h
    | none =>
      simp only [Option.isSome_none] at h
      split at h
      · rename_i kd kl g1 hr
        split at h
        · rename_i jump g2 he
          cases h
          obtain ⟨m1, h1⟩ := evRange_ok (gop := f) (aps := ps) hng hc (by simp) hr he
          exact ⟨m1, fun N F w0 ι ds a w Q hN hF ht hk hs hthr hQ => h1 N F w0 ι ds a w Q mk hN hF ht hk hs hthr (ht.all f) hQ⟩
        · cases h
      · cases h
  | .goto l, tm, mk, g, e, tm', mk', g', h => by simp [evCode] at h
  | .refuse s, tm, mk, g, e, tm', mk', g', h => by simp [evCode] at h
end
end Go.Proofs.Ytoifejinppjeeaa.Eng
namespace Go.Proofs.Ytoifejinppjeeaa.Eng
open Go Go.RowKit
set_option linter.unusedVariables false
set_option linter.unusedSimpArgs false
theorem argsT_get : ∀ (l : List AV) (i : Nat) (tm tm' : T AV), argsT i tm l = some tm' → ∀ j, tm'.get j = if i ≤ j ∧ j < i + l.length then l[j - i]? else tm.get j
  | [], i, tm, tm', h, j => by
    simp [argsT] at h
    subst h
    rw [if_neg (by simp)]
  | a :: l, i, tm, tm', h, j => by
    simp only [argsT] at h
    split at h
    · rename_i t1 h1
      have hget := T.set_get _ _ _ _ _ h1
      rw [argsT_get l (i + 1) t1 tm' h j]
      simp only [List.length_cons]
      by_cases e : j = i
      · subst e
        rw [if_neg (by omega), if_pos (by omega), hget, if_pos rfl]
        simp
      · by_cases e2 : i + 1 ≤ j ∧ j < i + 1 + l.length
        · rw [if_pos e2, if_pos (by omega), show j - i = (j - (i + 1)) + 1 by omega]
          simp
        · rw [if_neg e2, if_neg (by omega), hget, if_neg e]
    · cases h
theorem args_TR {ι : Io} {n : Nat} {args : List AV} {tm : T AV} {vs : List Value} (h : argsT 0 .nil args = some tm) (hv : VRL ι args vs) (hn : args.length ≤ n) : TR ι n [] tm { tmps := vs.toArray ++ Array.replicate (n - vs.toArray.size) undef, defers := [] } := by
  obtain ⟨h1, h2⟩ := VRL_iff.1 hv
  have hget := argsT_get _ _ _ _ h
  refine ⟨by
    show (vs.toArray ++ Array.replicate (n - vs.toArray.size) undef).size = n
    rw [Array.size_append, Array.size_replicate, List.size_toArray]; omega, rfl, fun (t : Nat) => ?_⟩
  have hg := hget t
  simp only [Nat.zero_le, Nat.zero_add, true_and, Nat.sub_zero, T.get_nil] at hg
  by_cases e : t < args.length
  · rw [if_pos e, List.getElem?_eq_getElem e] at hg
    rw [opnd_some hg]
    obtain ⟨v, hv1, hv2⟩ := h2 t _ (List.getElem?_eq_getElem e)
    have : Act.eval { tmps := vs.toArray ++ Array.replicate (n - vs.toArray.size) undef, defers := [] } (.tmp t) = v := by
      show (vs.toArray ++ Array.replicate (n - vs.toArray.size) undef).getD t undef = v
      have hlt : t < vs.length := by omega
      have hvt : vs[t] = v := by
        rw [List.getElem?_eq_getElem hlt] at hv1
        exact Option.some.inj hv1
      simp [Array.getD_eq_getD_getElem?, Array.getElem?_append, hlt, hvt]
    rw [this]
    exact hv2
  · rw [if_neg e] at hg
    have h3 : opnd tm (.tmp t) = .v undef := by simp only [opnd, hg]
    rw [h3, VR]
    show (vs.toArray ++ Array.replicate (n - vs.toArray.size) undef).getD t undef = undef
    rw [Array.getD_eq_getD_getElem?]
    rw [Array.getElem?_append_right (by rw [List.size_toArray]; omega), Array.getElem?_replicate]
    split <;> rfl
section
variable {P : Program}
theorem loadAt_as {t : TypeId} {v x : Value} {w w' : World} (h : (Instr.loadAt t v).run P w = .ok x w') : (do loadVar t (← asAddr v) : Sem Value).run P w = .ok x w' := by
  cases v with
  | pointer a =>
    cases a with
    | none => simp [Instr.loadAt, Instr.sureAddr, stuck, Sem.run] at h
    | some a => exact h
  | _ => simp [Instr.loadAt, Instr.sureAddr, stuck, Sem.run] at h
def resM (tmps : Array Value) : ResultVar → Sem Value
  | .tmp t => pure (tmps.getD t undef)
  | .cell a t => do loadVar t (← asAddr (tmps.getD a undef))
theorem res_ok {Nt : Nat} {ds : List Deferred} {a : Act} : ∀ (rs : List ResultVar) {tm : T AV} {g g' : G} {xs : List AV}, resA P tm g rs = some (xs, g') → Mono g g' ∧ ∀ N F w0 ι w, FOK F g' → TR ι Nt ds tm a → Sat N F g ι w0 w →
    ∃ vs, (rs.mapM (resM a.tmps)).run P w = .ok vs w ∧ VRL ι xs vs ∧ Step g g' ι ι w w ∧ Sat N F g' ι w0 w
  | [], tm, g, g', xs, h => by
    simp [resA] at h
    obtain ⟨rfl, rfl⟩ := h
    exact ⟨Mono.refl _, fun N F w0 ι w hF ht hs => ⟨[], rfl, by rw [VRL], Step.refl _ _ _, hs⟩⟩
  | .tmp t :: rs, tm, g, g', xs, h => by
    simp only [resA] at h
    split at h
    · rename_i ys g1 hr
      cases h
      obtain ⟨m, ih⟩ := res_ok (Nt := Nt) (ds := ds) (a := a) rs hr
      refine ⟨m, fun N F w0 ι w hF ht hs => ?_⟩
      obtain ⟨vs, h1, h2, st, sat⟩ := ih N F w0 ι w hF ht hs
      refine ⟨a.tmps.getD t undef :: vs, ?_, ?_, st, sat⟩
      · rw [List.mapM_cons]
        simp only [resM, Sem.run_bind, Sem.run_pure, Result.andThen_ok, h1]
      · rw [VRL]
        exact ⟨_, _, rfl, ht.rel t, h2⟩
    · cases h
  | .cell t ty :: rs, tm, g, g', xs, h => by
    simp only [resA] at h
    split at h
    · rename_i av g1 hl
      split at h
      · rename_i ys g2 hr
        cases h
        have ml : Mono g g1 := by
          unfold evLoad at hl
          repeat' split at hl
          all_goals first
            | (cases hl; done)
            | (cases hl; exact Mono.read (by assumption))
        obtain ⟨m, ih⟩ := res_ok (Nt := Nt) (ds := ds) (a := a) rs hr
        refine ⟨ml.tr m, fun N F w0 ι w hF ht hs => ?_⟩
        obtain ⟨v, h0, hv, st1, sat1⟩ := load_at (P := P) (t := ty) hl (ht.rel t) (m.fok hF) hs
        obtain ⟨vs, h1, h2, st, sat⟩ := ih N F w0 ι w hF ht sat1
        refine ⟨v :: vs, ?_, ?_, st1.trans st, sat⟩
        · rw [List.mapM_cons]
          have h0' := loadAt_as h0
          simp only [Sem.run_bind]
          rw [show (resM a.tmps (.cell t ty)).run P w = .ok v w from h0']
          simp only [Result.andThen_ok, Sem.run_bind, h1, Sem.run_pure]
        · rw [VRL]
          exact ⟨_, _, rfl, hv, h2⟩
      · cases h
    · cases h
/-- One result, or all of them together. -/
def oneV : List Value → Value
  | [v] => v
  | l => .tuple l.toArray
theorem results_run {fn : Func} {a : Act} {vs : List Value} {w w' : World} (h : (fn.results.toList.mapM (resM a.tmps)).run P w = .ok vs w') : (results fn a.tmps).run P w = .ok (oneV vs) w' := by
  have e : (fn.results.mapM (resM a.tmps)).run P w = .ok vs.toArray w' := by
    have e1 : fn.results = fn.results.toList.toArray := rfl
    rw [e1, List.mapM_toArray, map_eq_pure_bind]
    simp only [Sem.run_bind, h, Result.andThen_ok, Function.comp_apply, Sem.run_pure]
  have e2 : results fn a.tmps = (do let vs ← fn.results.mapM (resM a.tmps); pure (if h : vs.size = 1 then vs[0] else .tuple vs)) := by
    unfold results
    congr 1
  rw [e2, Sem.run_bind, e]
  simp only [Result.andThen_ok, Sem.run_pure]
  congr 1
  match vs with
  | [] => simp [oneV]
  | [v] => simp [oneV]
  | v :: u :: l => simp [oneV]
theorem resOne_VR {ι : Io} {xs : List AV} {vs : List Value} (h : VRL ι xs vs) : VR ι (resOne xs) (oneV vs) := by
  have hl := (VRL_iff.1 h).1
  match xs, vs, hl with
  | [], [], _ => exact VR_mkTup h
  | [a], [v], _ =>
    rw [VRL] at h
    obtain ⟨u, us, e, h1, _⟩ := h
    cases e
    exact h1
  | a :: b :: xs, v :: u :: vs, _ => exact VR_mkTup h

theorem marks_ok {fn : Func} {tmps : Array Value} {R : Ending → World → Prop} : ∀ (mk : List Nat) {g g' : G}, evMarks mk g = some g' → Mono g g' ∧ ∀ N F w0 ι ds w, FOK F g' → MK ι mk ds → Sat N F g ι w0 w →
    (∀ w', Step g g' ι ι w w' → Sat N F g' ι w0 w' → LeavesIn Fence.wide 0 P fn tmps R [] .returning w') → LeavesInM Fence.wide 0 P fn tmps R ds .returning w
  | [], g, g', h => by
    simp [evMarks] at h
    subst h
    refine ⟨Mono.refl _, fun N F w0 ι ds w hF hk hs hR => ?_⟩
    cases hk
    exact hR w (Step.refl _ _ _) hs
  | k :: ks, g, g', h => by
    simp only [evMarks] at h
    split at h
    · rename_i g1 hr
      split at h
      · rename_i g2 hw
        obtain ⟨m, ih⟩ := marks_ok ks h
        refine ⟨((Mono.readX hr).tr (Mono.write hw)).tr m, fun N F w0 ι ds w hF hk hs hR => ?_⟩
        obtain ⟨D, ds', rfl, hD, hk⟩ := hk
        have hF2 := m.fok hF
        obtain ⟨h1, ⟨b, m', h2, h3⟩, st1, sat1, e1, _⟩ := readX_ok hr ((Mono.write hw).fok hF2) hs
        obtain rfl := is_at hD h2
        have h3' : w.heap[D]? = some (.deferred (some [])) := h3
        have hlt : D < w.heap.size := (Array.getElem?_eq_some_iff.1 h3').1
        obtain ⟨st2, sat2, _⟩ := writeX_ok (o := .deferred none) hw hF2 sat1 (by rw [e1]; exact h1) h2 trivial
        refine ⟨by simp, .inl ⟨D, _, rfl, run_takeDeferred h3', ?_⟩⟩
        exact ih N F w0 ι ds' _ hF hk sat2 fun w' st sat => hR w' ((st1.trans st2).trans st) sat
      · cases h
    · cases h
theorem loop_mk {body : T AV → List Nat → G → Option (Ex × T AV × List Nat × G)} (hb : ∀ tm mk g e tm' mk' g', body tm mk g = some (e, tm', mk', g') → mk' = mk) : ∀ n tm mk g e tm' mk' g', evCode.evLoop body n tm mk g = some (e, tm', mk', g') → mk' = mk
  | 0, tm, mk, g, e, tm', mk', g', h => by simp [evCode.evLoop] at h
  | n + 1, tm, mk, g, e, tm', mk', g', h => by
    simp only [evCode.evLoop] at h
    split at h
    · rename_i hbody
      rw [loop_mk hb n _ _ _ _ _ _ _ h, hb _ _ _ _ _ _ _ hbody]
    · exact hb _ _ _ _ _ _ _ h
/-- A round leaves no mark. -/
theorem code_mk {call : Cl → List AV → G → Option (AV × G)} {nt lf : Nat} : ∀ (c : Code) tm mk g e tm' mk' g', evCode P call nt lf true c tm mk g = some (e, tm', mk', g') → mk' = mk
  | .skip, tm, mk, g, e, tm', mk', g', h => by simp [evCode] at h; exact h.2.2.1.symm
  | .label l, tm, mk, g, e, tm', mk', g', h => by simp [evCode] at h; exact h.2.2.1.symm
  | .region id ops draw, tm, mk, g, e, tm', mk', g', h => by
    simp only [evCode] at h
    repeat' split at h
    all_goals cases h
    all_goals rfl
  | .seq x y, tm, mk, g, e, tm', mk', g', h => by
    simp only [evCode] at h
    split at h
    · rename_i hx
      rw [code_mk y _ _ _ _ _ _ _ h, code_mk x _ _ _ _ _ _ _ hx]
    · exact code_mk x _ _ _ _ _ _ _ h
  | .cond c x y, tm, mk, g, e, tm', mk', g', h => by
    simp only [evCode] at h
    split at h
    · exact code_mk x _ _ _ _ _ _ _ h
    · exact code_mk y _ _ _ _ _ _ _ h
    · cases h
  | .block id c, tm, mk, g, e, tm', mk', g', h => by
    simp only [evCode] at h
    split at h
    · rename_i hx
      have := code_mk c _ _ _ _ _ _ _ hx
      split at h <;> cases h <;> exact this
    · exact code_mk c _ _ _ _ _ _ _ h
  | .loop c, tm, mk, g, e, tm', mk', g', h => by
    simp only [evCode] at h
    exact loop_mk (fun _ _ _ _ _ _ _ hh => code_mk c _ _ _ _ _ _ _ hh) lf _ _ _ _ _ _ _ h
  | .exit id, tm, mk, g, e, tm', mk', g', h => by simp [evCode] at h; exact h.2.2.1.symm
  | .scope c, tm, mk, g, e, tm', mk', g', h => by
    simp only [evCode] at h
    exact code_mk c _ _ _ _ _ _ _ h
  | .ret, tm, mk, g, e, tm', mk', g', h => by simp [evCode] at h; exact h.2.2.1.symm
  | .rangeFunc f ps asg bd, tm, mk, g, e, tm', mk', g', h => by simp [evCode] at h
  | .goto l, tm, mk, g, e, tm', mk', g', h => by simp [evCode] at h
  | .refuse s, tm, mk, g, e, tm', mk', g', h => by simp [evCode] at h
theorem putsT_ok {ι : Io} {nt : Nat} : ∀ (ps : List Nat) {tm tm' : T AV} {args : List AV} {vs : List Value} {ts : Array Value}, putsT nt tm ps args = some tm' → VRL ι args vs → TM ι nt tm ts →
    ps.length = vs.length ∧ TM ι nt tm' ((ps.zip vs).foldl (fun t (p, v) => t.setIfInBounds p v) ts)
  | [], tm, tm', args, vs, ts, h, hv, ht => by
    cases args with
    | nil =>
      simp [putsT] at h
      subst h
      rw [VRL] at hv
      subst hv
      exact ⟨rfl, ht⟩
    | cons a l => simp [putsT] at h
  | p :: ps, tm, tm', args, vs, ts, h, hv, ht => by
    cases args with
    | nil => simp [putsT] at h
    | cons a l =>
      rw [VRL] at hv
      obtain ⟨v, us, rfl, h1, h2⟩ := hv
      simp only [putsT] at h
      split at h
      · rename_i t1 hp
        have hT : TR ι nt [] tm { tmps := ts, defers := [] } := ⟨ht.1, rfl, ht.2⟩
        have := hT.put h1 hp
        obtain ⟨h3, h4⟩ := putsT_ok ps h h2 (ts := ts.setIfInBounds p v) ⟨this.size, this.rel⟩
        exact ⟨by simp [h3], h4⟩
      · cases h
theorem round_ok (hng : noNumG P = true) (hm : P.follows .mixedOrders = true) {call : Cl → List AV → G → Option (AV × G)} (hc : CallOK P call) {lf k : Nat} {args : List AV} {g g' : G} {av : AV} (h : evRound P call lf k args g = some (av, g')) :
    Mono g g' ∧ ∀ N F w0 ι w (vs : List Value), g'.n ≤ N → FOK F g' → Sat N F g ι w0 w → g.thr ≤ g.n → VRL ι args vs → Ran P ι w vs (Post N F w0 av g g' ι w) (.yl k) := by
  unfold evRound at h
  split at h
  · rename_i st jmp nt tm ps asg bd ga hr1
    split at h
    · rename_i tm1 hputs
      split at h
      · rename_i tm2 mk2 gb hasg
        split at h
        · rename_i st2 jmp2 nt2 tm3 ps2 asg2 bd2 gc hr2
          split at h
          · rename_i gd hw1
            split at h
            · rename_i e tm4 mk4 ge hbd
              split at h
              · rename_i st3 jmp3 nt3 tm5 ps3 asg3 bd3 gf hr3
                have fin : ∀ (j stn : Nat) (bb : Bool), jumpTo e = j → g.n = g.n → gf.write k (some (.odd (.lp stn j nt3 tm5 ps3 asg3 bd3))) = some g' → av = .v (.bool bb) → (stTo stn = if (jumpC j).isNone then .ready else .done) → bb = (jumpC j).isNone →
                    Mono g g' ∧ ∀ N F w0 ι w (vs : List Value), g'.n ≤ N → FOK F g' → Sat N F g ι w0 w → g.thr ≤ g.n → VRL ι args vs → Ran P ι w vs (Post N F w0 av g g' ι w) (.yl k) := by
                  intro j stn bb hj _ hw2 hav hst hbb
                  subst hav
                  have M1 := Mono.readX hr1
                  have M2 := (code_ok (Nt := nt) hng hm hc lf (some 0) asg _ _ _ _ _ _ _ hasg).1
                  have M3 := Mono.readX hr2
                  have M4 := Mono.write hw1
                  have M5 := (code_ok (Nt := nt) hng hm hc lf (some 0) bd _ _ _ _ _ _ _ hbd).1
                  have M6 := Mono.readX hr3
                  have M7 := Mono.write hw2
                  refine ⟨(((((M1.tr M2).tr M3).tr M4).tr M5).tr M6).tr M7, fun N F w0 ι w vs hN hF hs hthr hv b hb => ?_⟩
                  have F6 := M7.fok hF
                  have F5 := M6.fok F6
                  have F4 := M5.fok F5
                  have F3 := M4.fok F4
                  have F2 := M3.fok F3
                  have F1 := M2.fok F2
                  have N6 := Nat.le_trans M7.n hN
                  have N5 := Nat.le_trans M6.n N6
                  have N4 := Nat.le_trans M5.n N5
                  have N3 := Nat.le_trans M4.n N4
                  have N2 := Nat.le_trans M3.n N3
                  obtain ⟨h1, ⟨b', m', h2, h3⟩, sta, sata, e1, n1⟩ := readX_ok hr1 F1 hs
                  obtain rfl := is_at hb h2
                  obtain ⟨r, hq1, hq2, hq3, hq4, hq5, hq6, hq7⟩ := h3
                  obtain ⟨hlen, hT⟩ := putsT_ok ps hputs hv hq7
                  refine ⟨r.fn, _, r.assign, r.body, run_yield hq1 (by rw [hq4]; simp [hlen]), ?_⟩
                  rw [hq4, hq5, hq6]
                  have ez : (ps.toArray.zip vs.toArray).foldl (fun tmps (t, a) => tmps.setIfInBounds t a) r.tmps = (ps.zip vs).foldl (fun t (p, v) => t.setIfInBounds p v) r.tmps := by
                    rw [List.zip_toArray, List.foldl_toArray]
                  rw [ez]
                  refine roundIn_of_wpIn trivial ?_
                  refine (code_ok (Nt := nt) hng hm hc lf (some b) asg _ _ _ _ _ _ _ hasg).2 N F w0 ι [] _ w _ N2 F2 (⟨hT.1, rfl, hT.2⟩ : TR ι nt [] tm1 { tmps := (ps.zip vs).foldl (fun t (p, v) => t.setIfInBounds p v) r.tmps, defers := [] }) rfl sata (by rw [M1.thr, n1]; exact hthr) fun ιa dsa aa wa hta hka stb satb => ?_
                  obtain ⟨h1a, ⟨b1, m1, h2a, h3a⟩, stc, satc, e2, n2⟩ := readX_ok hr2 F3 satb
                  obtain rfl := stb.le.keep h2 h2a
                  obtain ⟨ra, ha1, ha2, ha3, ha4, ha5, ha6, ha7⟩ := h3a
                  have hlt : b1 < wa.heap.size := (Array.getElem?_eq_some_iff.1 ha1).1
                  refine ⟨_, run_beginRound ha1 ha2, ?_⟩
                  obtain ⟨std, satd, n3⟩ := writeX_ok (o := .loop { ra with state := .busy }) hw1 F4 satc (by rw [e2]; exact h1a) h2a ⟨_, World.putObj_heap_same hlt, rfl, ha3, ha4, ha5, ha6, ha7⟩
                  have thrB : gb.thr ≤ gb.n := by rw [M2.thr, M1.thr]; exact Nat.le_trans hthr (Nat.le_trans M1.n M2.n)
                  have hds : dsa = [] := by
                    rw [code_mk _ _ _ _ _ _ _ _ hasg] at hka
                    exact hka
                  refine (code_ok (Nt := nt) hng hm hc lf (some b1) bd _ _ _ _ _ _ _ hbd).2 N F w0 ιa [] aa _ _ N5 F5 (by rw [← hds]; exact hta) rfl satd (by rw [M4.thr, M3.thr]; exact Nat.le_trans thrB (Nat.le_trans M3.n M4.n)) fun ιb dsb ab wb htb hkb ste sate => ?_
                  obtain ⟨h1b, ⟨b2, m2, h2b, h3b⟩, stf, satf, e3, n4⟩ := readX_ok hr3 F6 sate
                  obtain rfl := ste.le.keep h2a h2b
                  obtain ⟨rb, hb1, hb2, hb3, hb4, hb5, hb6, hb7⟩ := h3b
                  have hlt2 : b2 < wb.heap.size := (Array.getElem?_eq_some_iff.1 hb1).1
                  obtain ⟨stg, satg, n5⟩ := writeX_ok (o := .loop { rb with state := if (jumpC j).isNone then .ready else .done, pending := jumpC j }) hw2 hF satf (by rw [e3]; exact h1b) h2b ⟨_, World.putObj_heap_same hlt2, hst.symm, rfl, hb4, hb5, hb6, hb7⟩
                  have stAll := (((((sta.trans stb).trans stc).trans std).trans ste).trans stf).trans stg
                  have hend := run_endRound (P := P) (jumpC j) hb1
                  have key : ∃ v w', (Instr.endRound b2 (jumpC j)).run P wb = .ok v w' ∧ Post N F w0 (.v (.bool bb)) g g' ι w (.returned v) w' := ⟨_, _, hend, ιb, _, rfl, by rw [VR, hbb], stAll, satg⟩
                  subst hj
                  cases e with
                  | normal => exact key
                  | ret => exact key
                  | exit id => exact key
                split at h
                · rename_i hj
                  split at h
                  · rename_i gg hw2
                    cases h
                    exact fin 0 0 true hj rfl hw2 rfl rfl rfl
                  · cases h
                · rename_i j hj
                  split at h
                  · rename_i gg hw2
                    cases h
                    exact fin (j + 1) 2 false hj rfl hw2 rfl (by cases j <;> rfl) (by cases j <;> rfl)
                  · cases h
              · cases h
            · cases h
          · cases h
        · cases h
      · cases h
    · cases h
  · cases h
theorem evFn_ok (hng : noNumG P = true) (hm : P.follows .mixedOrders = true) (lf : Nat) : ∀ d, CallOK P (evFn P lf d)
  | 0, c, args, g, av, g', h => by simp [evFn] at h
  | d + 1, .yl k, args, g, av, g', h => by
    simp only [evFn] at h
    exact round_ok hng hm (evFn_ok hng hm lf d) h
  | d + 1, .fn f, args, g, av, g', h => by
    simp only [evFn] at h
    split at h
    · cases h
    · rename_i fn hf
      split at h
      · cases h
      · rename_i body hb
        split at h
        · rename_i tm hn hargs
          have hn' := Nat.le_of_ble_eq_true hn
          have key : ∀ e tm1 mk1 g1 g2 xs, evCode P (evFn P lf d) fn.ntmps lf false body tm [] g = some (e, tm1, mk1, g1) → e = .normal ∨ e = .ret → evMarks mk1 g1 = some g2 → resA P tm1 g2 fn.results.toList = some (xs, g') → av = resOne xs →
              Mono g g' ∧ ∀ N F w0 ι w (vs : List Value), g'.n ≤ N → FOK F g' → Sat N F g ι w0 w → g.thr ≤ g.n → VRL ι args vs → Ran P ι w vs (Post N F w0 av g g' ι w) (.fn f) := by
            intro e tm1 mk1 g1 g2 xs hev he hmk hres hav
            subst hav
            obtain ⟨m1, h1⟩ := code_ok (Nt := fn.ntmps) hng hm (evFn_ok hng hm lf d) lf none body _ _ _ _ _ _ _ hev
            have m2 := (res_ok (P := P) (Nt := fn.ntmps) (ds := []) (a := ⟨#[], []⟩) _ hres).1
            have m3 := (marks_ok (P := P) (fn := fn) (tmps := #[]) (R := fun _ _ => True) _ hmk).1
            refine ⟨(m1.tr m3).tr m2, fun N F w0 ι w vs hN hF hs hthr hv => ?_⟩
            have F2 := m2.fok hF
            have F1 := m3.fok F2
            refine callsIn_of_wp_marks (F := Fence.wide) hf hb trivial ?_
            refine h1 N F w0 ι [] _ w _ (Nat.le_trans m3.n (Nat.le_trans m2.n hN)) F1 (args_TR hargs hv hn') rfl hs hthr fun ι' ds' a' w' ht' hk' st sat => ?_
            have fin : LeavesInM Fence.wide 0 P fn a'.tmps (Post N F w0 (resOne xs) g g' ι w) ds' .returning w' := by
              refine (marks_ok (P := P) (fn := fn) _ hmk).2 N F w0 ι' ds' w' F2 hk' sat fun w2 st2 sat2 => ?_
              obtain ⟨us, hr, hu, st3, sat3⟩ := (res_ok (P := P) (Nt := fn.ntmps) (ds := ds') (a := a') _ hres).2 N F w0 ι' w2 hF ht' sat2
              exact ⟨_, results_run (fn := fn) hr, ι', _, rfl, resOne_VR hu, (st.trans st2).trans st3, sat3⟩
            rw [← ht'.defers] at fin
            rcases he with rfl | rfl
            · exact fin
            · exact fin
          split at h
          · rename_i tm1 mk1 g1 hev
            split at h
            · rename_i g2 hmk
              split at h
              · rename_i xs g3 hres
                cases h
                exact key _ _ _ _ _ _ hev (.inl rfl) hmk hres rfl
              · cases h
            · cases h
          · rename_i tm1 mk1 g1 hev
            split at h
            · rename_i g2 hmk
              split at h
              · rename_i xs g3 hres
                cases h
                exact key _ _ _ _ _ _ hev (.inr rfl) hmk hres rfl
              · cases h
            · cases h
          · cases h
        · cases h
/-- **A closed call that the evaluator finds true returns true, and leaves what stood.** -/
theorem isTrue_ok (hng : noNumG P = true) (hm : P.follows .mixedOrders = true) {lf d : Nat} {f : FuncId} (h : isTrue P lf d f = true) (w : World) : Calls P f #[] w fun e w' => e = .returned (.bool true) ∧ Below w.heap.size w w' := by
  unfold isTrue at h
  split at h
  · rename_i g' hev
    have hs : Sat g'.n (fun _ => True) g0 (fun _ => .un) w w :=
      ⟨(fun k k' b m m' hk => by cases hk), (fun k b m hk => by cases hk), fun k _ _ => rfl, (fun k l hl => by cases hl), (fun k l _ hl => by cases hl), Below.refl _ _⟩
    have := (evFn_ok hng hm lf d _ _ _ _ _ hev).2 g'.n (fun _ => True) w _ w [] (Nat.le_refl _) ⟨fun _ _ => trivial, fun _ _ => trivial, fun _ _ => trivial⟩ hs (Nat.le_refl _) (by rw [VRL])
    have hc : Calls P f #[] w _ := callsIn_wide.1 (show CallsIn Fence.wide 0 P f #[] w _ from this)
    refine hc.mono ?_
    rintro e w' ⟨ι', v, rfl, hv, st, sat⟩
    rw [VR] at hv
    subst hv
    exact ⟨rfl, sat.bel⟩
  · cases h
end
end Go.Proofs.Ytoifejinppjeeaa.Eng
