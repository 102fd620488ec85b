/- Code. Conditions: no function is runtime.NumGoroutine; mixed orders are followed; a call's evaluation is the model's. -/
import Derived.Test.YtjblkeofjkdpbaaGreatDoorEngO
import Derived.Scope
namespace Go.Proofs.YtjblkeofjkdpbaaGreatDoor.Eng
open Go Go.RowKit
set_option linter.unusedVariables false
set_option linter.unusedSimpArgs false
def Ex.to : Ex → Exit
  | .normal => .normal
  | .exit id => .exit id
  | .ret => .ret
/-- A scope that no goto leaves. -/
theorem stepR_scope {P : Program} {b : Frame} {a : Act} {k : List Item} {cs : List Frame} {w : World} {c : Code} : step P (lone (b.atR a (.code (.scope c) :: k)) cs w) = .next (lone (b.atR a (.code c :: .inScope c :: k)) cs w) :=
  step_lone_go (by simp [stepG, stepG.exec, Frame.atR])
theorem stepR_inScope {P : Program} {b : Frame} {a : Act} {k : List Item} {cs : List Frame} {w : World} {c : Code} : step P (lone (b.atR a (.inScope c :: k)) cs w) = .next (lone (b.atR a k) cs w) :=
  step_lone_go (by simp [stepG, stepG.exec, Frame.atR])
theorem wpIn_scope_straight {F : Fence} {n : Nat} {P : Program} {Q : Exit → Act → World → Prop} {a : Act} {w : World} {c : Code} (h : c.wpIn F n P (Exit.noGoto Q) a w) : (Code.scope c).wpIn F n P Q a w := by
  intro b k cs hro hb hr
  have h0 : (lone (b.atR a (.code (.scope c) :: k)) cs w).fenced P F := fenced_calm hb hr rfl
  obtain ⟨e, a₁, w₁, hq, harr⟩ := h b (.inScope c :: k) cs hro hb hr
  cases e with
  | normal => exact ⟨.normal, a₁, w₁, hq, .head h0 stepR_scope (StepsIn.trans harr (.one (fenced_calm hb hr rfl) stepR_inScope))⟩
  | exit id =>
    have hx : exitTo id (.inScope c :: k) = exitTo id k := by simp [exitTo]
    exact ⟨.exit id, a₁, w₁, hq, fun k' hk => .head h0 stepR_scope (harr.1 k' (by rw [hx]; exact hk)),
      fun hr' hk => let ⟨k₁, h1, h2⟩ := harr.2 hr' (by rw [hx]; exact hk); ⟨k₁, h1, .head h0 stepR_scope h2⟩⟩
  | goto l => exact hq.elim
  | ret => exact ⟨_, a₁, w₁, hq, .of_steps (.one h0 stepR_scope) harr⟩
  | panic ch => exact ⟨_, a₁, w₁, hq, .of_steps (.one h0 stepR_scope) harr⟩
  | outgrown => exact ⟨_, a₁, w₁, hq, .of_steps (.one h0 stepR_scope) harr⟩
/-- Marks among the deferred calls. -/
def MK (ι : Io) : List Nat → List Deferred → Prop
  | [], ds => ds = []
  | k :: ks, ds => ∃ D ds', ds = { target := .collected D, args := #[] } :: ds' ∧ (ι k).is D ∧ MK ι ks ds'
theorem MK.mono {ι ι' : Io} (hl : Le ι ι') : ∀ {mk : List Nat} {ds : List Deferred}, MK ι mk ds → MK ι' mk ds
  | [], ds, h => h
  | k :: ks, ds, h => by
    obtain ⟨D, ds', e, hk, h⟩ := h
    exact ⟨D, ds', e, hl.is hk, h.mono hl⟩
theorem Le.keep {ι ι' : Io} (h : Le ι ι') {k b m b' m' : Nat} (h1 : ι k = .at_ b m) (h2 : ι' k = .at_ b' m') : b' = b := by
  rcases h k with e | e | e
  · rw [h1] at e; cases e
  · rw [h2, h1] at e; cases e; rfl
  · rw [h2] at e; cases e
theorem is_at {ι : Io} {k b b' m : Nat} (h : (ι k).is b) (h1 : ι k = .at_ b' m) : b = b' := by
  rcases h with e | ⟨m', e⟩
  · rw [h1] at e; cases e
  · rw [h1] at e; cases e; rfl
theorem Sat.cut {N : Nat} {F : Nat → Prop} {g : G} {ι : Io} {w0 w : World} (h : Sat N F g ι w0 w) : Sat N F g ι w0 w := h
section
variable {P : Program} {call : Cl → List AV → G → Option (AV × G)} {Nt : Nat}
/-- An evaluation of code (or of a loop's body) is the model's. -/
def BodyOK (P : Program) (Nt : Nat) (ev : T AV → List Nat → G → Option (Ex × T AV × List Nat × G)) (wpc : (Exit → Act → World → Prop) → Act → World → Prop) : Prop :=
  ∀ tm mk g e tm' mk' g', ev tm mk g = some (e, tm', mk', g') → Mono g g' ∧ ∀ N F w0 ι ds a w Q, g'.n ≤ N → FOK F g' → TR ι Nt ds tm a → MK ι mk ds → Sat N F g ι w0 w → g.thr ≤ g.n →
    (∀ ι' ds' a' w', TR ι' Nt ds' tm' a' → MK ι' mk' ds' → Step g g' ι ι' w w' → Sat N F g' ι' w0 w' → Q e.to a' w') → wpc Q a w
theorem loop_ok {ro : Option Nat} {c : Code} {body : T AV → List Nat → G → Option (Ex × T AV × List Nat × G)} (hb : BodyOK P Nt body fun Q a w => c.wpIn (FW ro) 0 P Q a w) : ∀ n, BodyOK P Nt (evCode.evLoop body n) fun Q a w => Code.roundsIn (FW ro) 0 P c Q n a w
  | 0, tm, mk, g, e, tm', mk', g', h => by simp [evCode.evLoop] at h
  | n + 1, tm, mk, g, e, tm', mk', g', h => by
    simp only [evCode.evLoop] at h
    split at h
    · rename_i tm1 mk1 g1 hbody
      obtain ⟨m1, h1⟩ := hb _ _ _ _ _ _ _ hbody
      obtain ⟨m2, h2⟩ := loop_ok hb n _ _ _ _ _ _ _ h
      refine ⟨m1.tr m2, fun N F w0 ι ds a w Q hN hF ht hm hs hthr hQ => ?_⟩
      show Code.roundsIn (FW ro) 0 P c Q (n + 1) a w
      rw [roundsIn_succ]
      refine h1 N F w0 ι ds a w _ (Nat.le_trans m2.n hN) (m2.fok hF) ht hm hs hthr fun ι' ds' a' w' ht' hm' st sat => ?_
      exact h2 N F w0 ι' ds' a' w' Q hN hF ht' hm' sat (by rw [m1.thr]; exact Nat.le_trans hthr m1.n) fun ι2 ds2 a2 w2 t2 k2 st2 sat2 => hQ ι2 ds2 a2 w2 t2 k2 (st.trans st2) sat2
    · rename_i hne
      obtain ⟨m1, h1⟩ := hb _ _ _ _ _ _ _ h
      refine ⟨m1, fun N F w0 ι ds a w Q hN hF ht hm hs hthr hQ => ?_⟩
      show Code.roundsIn (FW ro) 0 P c Q (n + 1) a w
      rw [roundsIn_succ]
      refine h1 N F w0 ι ds a w _ hN hF ht hm hs hthr fun ι' ds' a' w' ht' hm' st sat => ?_
      have := hQ ι' ds' a' w' ht' hm' st sat
      cases e with
      | normal => exact (hne _ _ _ h).elim
      | exit id => exact this
      | ret => exact this
theorem stTo_busy {st : Nat} (h : Nat.beq st 1 = false) : stTo st ≠ .busy := by
  match st with
  | 0 => simp [stTo]
  | 1 => simp at h
  | 2 => simp [stTo]
  | n + 3 => simp [stTo]
/-- A block that holds no cells turns. -/
theorem writeX_ok {N : Nat} {F : Nat → Prop} {g g' : G} {ι : Io} {w0 w : World} {k b m : Nat} {a a0 : AV} {o : Obj} (h : g.write k (some (.odd a)) = some g') (hF : FOK F g') (hs : Sat N F g ι w0 w) (h0 : g.H.get k = some (.odd a0)) (hk : ι k = .at_ b m)
    (hb : BS ι (w.putObj b o) b a) : Step g g' ι ι w (w.putObj b o) ∧ Sat N F g' ι w0 (w.putObj b o) ∧ g'.n = g.n :=
  write_ok h hF hs h0 hk hb (by simp) rfl rfl rfl (fun d hd => World.putObj_heap_other hd)
theorem newX_ok {N : Nat} {F : Nat → Prop} {g g' : G} {ι : Io} {w0 w : World} {k : Nat} {a : AV} {o : Obj} (h : g.new (.odd a) = some (k, g')) (hN : g'.n ≤ N) (hF : FOK F g') (hs : Sat N F g ι w0 w) (hb : BS ι (w.alloc o) w.heap.size a) :
    ∃ ι', Step g g' ι ι' w (w.alloc o) ∧ Sat N F g' ι' w0 (w.alloc o) ∧ ι' k = .at_ w.heap.size 0 ∧ Le ι ι' :=
  new_okX h hN hF hs (m := 0) hb (show (w.heap.push _).size = _ by simp) rfl rfl rfl (fun d hd => heap_alloc_lt w _ hd)
theorem evEnd_ok {kl jump : Nat} {g g' : G} (h : evEnd kl g = some (jump, g')) : Mono g g' ∧ ∀ N F w0 ι w l, FOK F g' → Sat N F g ι w0 w → (ι kl).is l →
    ∃ w', (Instr.endLoop l).run P w = .ok (jumpC jump) w' ∧ Step g g' ι ι w w' ∧ Sat N F g' ι w0 w' := by
  unfold evEnd at h
  split at h
  · rename_i st jump' nt tm ps asg bd g1 hr
    split at h
    · cases h
    · rename_i hst
      split at h
      · rename_i g2 hw
        cases h
        refine ⟨(Mono.readX hr).tr (Mono.write hw), fun N F w0 ι w l hF hs hl => ?_⟩
        obtain ⟨h1, ⟨b, m', h2, h3⟩, st1, sat1, e1, _⟩ := readX_ok hr ((Mono.write hw).fok hF) hs
        obtain rfl := is_at hl h2
        obtain ⟨r, hr1, hr2, hr3, hr4, hr5, hr6, hr7⟩ := h3
        refine ⟨w.putObj l (.loop { r with state := .exhausted }), by rw [← hr3]; exact run_endLoop hr1 (by rw [hr2]; exact stTo_busy hst), ?_⟩
        have hlt : l < w.heap.size := (Array.getElem?_eq_some_iff.1 hr1).1
        obtain ⟨st2, sat2, _⟩ := writeX_ok (o := .loop { r with state := .exhausted }) hw hF sat1 (by rw [e1]; exact h1) h2 trivial
        exact ⟨st1.trans st2, sat2⟩
      · cases h
  · cases h
theorem evRange_ok (hng : noNumG P = true) (hc : CallOK P call) {f : AV} {tm : T AV} {ps : List Nat} {asg bd : Code} {kd kl jump : Nat} {g g1 g' : G} {gop : Operand} {aps : Array Tmp} (haps : aps = ps.toArray)
    (h : evRange P call Nt f tm ps asg bd g = some (kd, kl, g1)) (he : evEnd kl g1 = some (jump, g')) :
    Mono g g' ∧ ∀ N F w0 ι ds (a : Act) w (Q : Exit → Act → World → Prop) mk, g'.n ≤ N → FOK F g' → TR ι Nt ds tm a → MK ι mk ds → Sat N F g ι w0 w → g.thr ≤ g.n → VR ι f (a.eval gop) →
      (∀ ι' ds' a' w', TR ι' Nt ds' tm a' → MK ι' (kd :: mk) ds' → Step g g' ι ι' w w' → Sat N F g' ι' w0 w' → Q (jumpOf jump).to a' w') → (Code.rangeFunc gop aps asg bd).wpIn (FW none) 0 P Q a w := by
  subst haps
  unfold evRange at h
  split at h
  · cases h
  rename_i kd' ga hnd
  split at h
  · cases h
  rename_i kl' gb hnl
  split at h
  · rename_i fn args gc hcal
    split at h
    · rename_i av gd hcall
      cases h
      have e0 : gc = gb := by
        unfold evCall_ at hcal
        repeat' split at hcal
        all_goals try rw [forceV_eq] at hcal
        all_goals first
          | (cases hcal; done)
          | (cases hcal; rfl)
      subst e0
      obtain ⟨m5, h5⟩ := evEnd_ok (P := P) he
      obtain ⟨m4, h4⟩ := hc _ _ _ _ _ hcall
      have m1 := Mono.new hnd
      have m2 := Mono.new hnl
      refine ⟨((m1.tr m2).tr m4).tr m5, fun N F w0 ι ds a w Q mk hN hF ht hm hs hthr hf hQ => ?_⟩
      refine wpIn_rangeFunc fun fnn _ => ?_
      have hF4 := m5.fok hF
      have hF2 := m4.fok hF4
      have hN4 := Nat.le_trans m5.n hN
      have hN2 := Nat.le_trans m4.n hN4
      obtain ⟨ι1, st1, sat1, hk1, le1⟩ := newX_ok (o := .deferred (some [])) hnd (Nat.le_trans m2.n hN2) (m2.fok hF2) hs (by
        show (w.alloc _).heap[w.heap.size]? = _
        rw [heap_alloc_at]; rfl)
      have ht1 := ht.mono le1
      obtain ⟨ι2, st2, sat2, hk2, le2⟩ := newX_ok (o := .loop { state := .ready, pending := none, fn := fnn, tmps := a.tmps, params := ps.toArray, assign := asg, body := bd, defers := w.heap.size }) hnl hN2 hF2 sat1
        ⟨_, heap_alloc_at _ _, rfl, rfl, rfl, rfl, rfl, ht1.size, ht1.rel⟩
      have hsz : (w.alloc (.deferred (some []))).heap.size = w.heap.size + 1 := World.size_alloc _ _
      rw [hsz] at hk2
      have hy : VR ι2 (.yl kl) (.func (.yield (w.heap.size + 1)) #[] #[]) := by
        rw [VR]
        exact ⟨_, rfl, .inr ⟨_, hk2⟩⟩
      have hf2 : VR ι2 f (a.eval gop) := (hf.mono le1).mono le2
      obtain ⟨_, us, hu, hrun⟩ := callee_call hng (vs := [.func (.yield (w.heap.size + 1)) #[] #[]]) hcal hf2 (by rw [VRL]; exact ⟨_, _, rfl, hy, by rw [VRL]⟩)
      have hr := hrun ((w.alloc (.deferred (some []))).alloc (.loop { state := .ready, pending := none, fn := fnn, tmps := a.tmps, params := ps.toArray, assign := asg, body := bd, defers := w.heap.size }))
      rw [Sem.run_bind] at hr
      have hres : ∃ d w1', (Deferred.ofValue (a.eval gop) #[.func (.yield (w.heap.size + 1)) #[] #[]]).run P ((w.alloc (.deferred (some []))).alloc (.loop { state := .ready, pending := none, fn := fnn, tmps := a.tmps, params := ps.toArray, assign := asg, body := bd, defers := w.heap.size })) = .ok d w1' ∧
          (invoke d.target d.args).run P w1' = .ok (.enter fn us.toArray) ((w.alloc (.deferred (some []))).alloc (.loop { state := .ready, pending := none, fn := fnn, tmps := a.tmps, params := ps.toArray, assign := asg, body := bd, defers := w.heap.size })) := by
        cases hd : (Deferred.ofValue (a.eval gop) [Value.func (.yield (w.heap.size + 1)) #[] #[]].toArray).run P ((w.alloc (.deferred (some []))).alloc (.loop { state := .ready, pending := none, fn := fnn, tmps := a.tmps, params := ps.toArray, assign := asg, body := bd, defers := w.heap.size })) with
        | ok d w1' => rw [hd] at hr; exact ⟨d, w1', rfl, hr⟩
        | halt x w1' => rw [hd] at hr; simp [Result.andThen] at hr
      obtain ⟨d, w1', hd1, hd2⟩ := hres
      refine ⟨w.heap.size + 1, [{ target := .collected w.heap.size, args := #[] }], _, d, w1', fn, us.toArray, _, run_enterLoop_outer _ _ _ _ _, ?_, fun _ _ => trivial, hd2, fun h => (by cases h), ?_⟩
      · have e : (#[Operand.const (Value.func (Fn.yield (w.heap.size + 1)) #[] #[])].map a.eval) = #[Value.func (Fn.yield (w.heap.size + 1)) #[] #[]] := by simp [Act.eval]
        simp only [resolve]
        rw [e]
        exact hd1
      · have hcl : CallsIn Fence.wide 0 P fn us.toArray _ _ := h4 N F w0 ι2 _ us hN4 hF4 sat2 (by rw [m2.thr, m1.thr]; exact Nat.le_trans hthr (Nat.le_trans m1.n m2.n)) hu
        refine CallsIn.mono (F := FW none) hcl ?_
        rintro e w3 ⟨ι3, v, rfl, hv, st3, sat3⟩
        obtain ⟨w4, hr4, st4, sat4⟩ := h5 N F w0 ι3 w3 _ hF sat3 (st3.le.is (.inr ⟨_, hk2⟩))
        refine ⟨jumpC jump, w4, hr4, ?_⟩
        have stA := ((st1.trans st2).trans st3).trans st4
        have hle : Le ι ι3 := (le1.tr le2).tr st3.le
        have hfin := hQ ι3 ({ target := .collected w.heap.size, args := #[] } :: ds) { a with defers := [{ target := .collected w.heap.size, args := #[] }] ++ a.defers } w4
          ⟨ht.size, by rw [ht.defers]; rfl, fun t => (ht.mono hle).rel t⟩ ⟨_, _, rfl, (le2.tr st3.le).is (.inr ⟨_, hk1⟩), hm.mono hle⟩ stA sat4
        match jump, hfin with
        | 0, hfin => exact hfin
        | 1, hfin => exact wpIn_ret hfin
        | j + 2, hfin => exact wpIn_exit hfin
    · cases h
  · cases h
theorem code_ok (hng : noNumG P = true) (hm : P.follows .mixedOrders = true) (hc : CallOK P call) (lf : Nat) (ro : Option Nat) : ∀ c : Code, BodyOK P Nt (evCode P call Nt lf ro.isSome c) fun Q a w => c.wpIn (FW ro) 0 P Q a w
  | .skip, tm, mk, g, e, tm', mk', g', h => by
    simp [evCode] at h
    obtain ⟨rfl, rfl, rfl, rfl⟩ := h
    exact ⟨Mono.refl _, fun N F w0 ι ds a w Q hN hF ht hk hs hthr hQ => wpIn_skip (hQ ι ds a w ht hk (Step.refl _ _ _) hs)⟩
  | .label l, tm, mk, g, e, tm', mk', g', h => by
    simp [evCode] at h
    obtain ⟨rfl, rfl, rfl, rfl⟩ := h
    exact ⟨Mono.refl _, fun N F w0 ι ds a w Q hN hF ht hk hs hthr hQ => wpIn_label (hQ ι ds a w ht hk (Step.refl _ _ _) hs)⟩
  | .region id ops draw, tm, mk, g, e, tm', mk', g', h => by
    simp only [evCode] at h
    split at h
    · split at h
      · rename_i tm1 g1 hev
        cases h
        refine ⟨evOps_mono hc _ hev, fun N F w0 ι ds a w Q hN hF ht hk hs hthr hQ => ?_⟩
        refine wpIn_region ?_
        have := evOps_ok (ro := ro) (ds := ds) (Q := Q) hng hc hN hF ops.toList 0 (fun j => by simp) hev ht hs hthr (fun ι' a' w' t' st sat => hQ ι' ds a' w' t' (hk.mono st.le) st sat)
        rw [← List.range_eq_range'] at this
        simpa using this
      · cases h
    · split at h
      · rename_i ancs hr
        split at h
        · rename_i tm1 g1 hev
          cases h
          refine ⟨evDraw_mono hc hr hev, fun N F w0 ι ds a w Q hN hF ht hk hs hthr hQ => ?_⟩
          have := evDraw_ok (ro := ro) (ds := ds) (Q := Q) (id := id) hng hm hc hr hev hN hF ht hs hthr (fun ι' a' w' t' st sat => hQ ι' ds a' w' t' (hk.mono st.le) st sat)
          simpa using this
        · cases h
      · cases h
  | .seq x y, tm, mk, g, e, tm', mk', g', h => by
    simp only [evCode] at h
    split at h
    · rename_i tm1 mk1 g1 hx
      obtain ⟨m1, h1⟩ := code_ok hng hm hc lf ro x _ _ _ _ _ _ _ hx
      obtain ⟨m2, h2⟩ := code_ok hng hm hc lf ro y _ _ _ _ _ _ _ h
      refine ⟨m1.tr m2, fun N F w0 ι ds a w Q hN hF ht hk hs hthr hQ => ?_⟩
      refine wpIn_seq (h1 N F w0 ι ds a w _ (Nat.le_trans m2.n hN) (m2.fok hF) ht hk hs hthr fun ι' ds' a' w' ht' hk' st sat => ?_)
      exact h2 N F w0 ι' ds' a' w' Q hN hF ht' hk' sat (by rw [m1.thr]; exact Nat.le_trans hthr m1.n) fun ι2 ds2 a2 w2 t2 k2 st2 sat2 => hQ ι2 ds2 a2 w2 t2 k2 (st.trans st2) sat2
    · rename_i hne
      obtain ⟨m1, h1⟩ := code_ok hng hm hc lf ro x _ _ _ _ _ _ _ h
      refine ⟨m1, fun N F w0 ι ds a w Q hN hF ht hk hs hthr hQ => ?_⟩
      refine wpIn_seq (h1 N F w0 ι ds a w _ hN hF ht hk hs hthr fun ι' ds' a' w' ht' hk' st sat => ?_)
      have := hQ ι' ds' a' w' ht' hk' st sat
      cases e with
      | normal => exact (hne _ _ _ h).elim
      | exit id => exact this
      | ret => exact this
  | .cond c x y, tm, mk, g, e, tm', mk', g', h => by
    simp only [evCode] at h
    split at h
    · rename_i hcd
      obtain ⟨m1, h1⟩ := code_ok hng hm hc lf ro x _ _ _ _ _ _ _ h
      refine ⟨m1, fun N F w0 ι ds a w Q hN hF ht hk hs hthr hQ => ?_⟩
      have hv := ht.all c
      rw [hcd, VR] at hv
      exact wpIn_cond_true hv (h1 N F w0 ι ds a w Q hN hF ht hk hs hthr hQ)
    · rename_i hcd
      obtain ⟨m1, h1⟩ := code_ok hng hm hc lf ro y _ _ _ _ _ _ _ h
      refine ⟨m1, fun N F w0 ι ds a w Q hN hF ht hk hs hthr hQ => ?_⟩
      have hv := ht.all c
      rw [hcd, VR] at hv
      exact wpIn_cond_false hv (h1 N F w0 ι ds a w Q hN hF ht hk hs hthr hQ)
    · cases h
  | .block id c, tm, mk, g, e, tm', mk', g', h => by
    simp only [evCode] at h
    split at h
    · rename_i id' tm1 mk1 g1 hx
      obtain ⟨m1, h1⟩ := code_ok hng hm hc lf ro c _ _ _ _ _ _ _ hx
      split at h
      · rename_i hid
        obtain rfl : id' = id := beq_tt hid
        cases h
        refine ⟨m1, fun N F w0 ι ds a w Q hN hF ht hk hs hthr hQ => wpIn_block (h1 N F w0 ι ds a w _ hN hF ht hk hs hthr fun ι' ds' a' w' ht' hk' st sat => ?_)⟩
        show Exit.inBlock id' Q (.exit id') a' w'
        simp only [Exit.inBlock, if_true]
        exact hQ ι' ds' a' w' ht' hk' st sat
      · rename_i hid
        cases h
        refine ⟨m1, fun N F w0 ι ds a w Q hN hF ht hk hs hthr hQ => wpIn_block (h1 N F w0 ι ds a w _ hN hF ht hk hs hthr fun ι' ds' a' w' ht' hk' st sat => ?_)⟩
        show Exit.inBlock id Q (.exit id') a' w'
        simp only [Exit.inBlock]
        rw [if_neg (fun e => by rw [e] at hid; simp at hid)]
        exact hQ ι' ds' a' w' ht' hk' st sat
    · rename_i hne
      obtain ⟨m1, h1⟩ := code_ok hng hm hc lf ro c _ _ _ _ _ _ _ h
      refine ⟨m1, fun N F w0 ι ds a w Q hN hF ht hk hs hthr hQ => wpIn_block (h1 N F w0 ι ds a w _ hN hF ht hk hs hthr fun ι' ds' a' w' ht' hk' st sat => ?_)⟩
      have := hQ ι' ds' a' w' ht' hk' st sat
      cases e with
      | normal => exact this
      | exit id' => exact (hne _ _ _ _ h).elim
      | ret => exact this
  | .loop c, tm, mk, g, e, tm', mk', g', h => by
    simp only [evCode] at h
    obtain ⟨m1, h1⟩ := loop_ok (code_ok hng hm hc lf ro c) lf _ _ _ _ _ _ _ h
    exact ⟨m1, fun N F w0 ι ds a w Q hN hF ht hk hs hthr hQ => wpIn_loop_rounds lf (h1 N F w0 ι ds a w Q hN hF ht hk hs hthr hQ)⟩
  | .exit id, tm, mk, g, e, tm', mk', g', h => by
    simp [evCode] at h
    obtain ⟨rfl, rfl, rfl, rfl⟩ := h
    exact ⟨Mono.refl _, fun N F w0 ι ds a w Q hN hF ht hk hs hthr hQ => wpIn_exit (hQ ι ds a w ht hk (Step.refl _ _ _) hs)⟩
  | .scope c, tm, mk, g, e, tm', mk', g', h => by
    simp only [evCode] at h
    obtain ⟨m1, h1⟩ := code_ok hng hm hc lf ro c _ _ _ _ _ _ _ h
    refine ⟨m1, fun N F w0 ι ds a w Q hN hF ht hk hs hthr hQ => wpIn_scope_straight (h1 N F w0 ι ds a w _ hN hF ht hk hs hthr fun ι' ds' a' w' ht' hk' st sat => ?_)⟩
    have := hQ ι' ds' a' w' ht' hk' st sat
    cases e <;> exact this
  | .ret, tm, mk, g, e, tm', mk', g', h => by
    simp [evCode] at h
    obtain ⟨rfl, rfl, rfl, rfl⟩ := h
    exact ⟨Mono.refl _, fun N F w0 ι ds a w Q hN hF ht hk hs hthr hQ => wpIn_ret (hQ ι ds a w ht hk (Step.refl _ _ _) hs)⟩
  | .rangeFunc f ps asg bd, tm, mk, g, e, tm', mk', g', h => by
    simp only [evCode] at h
    cases ro with
    | some l => simp at h
    | none =>
      simp only [Option.isSome_none] at h
      split at h
      · rename_i kd kl g1 hr
        split at h
        · rename_i jump g2 he
          cases h
          obtain ⟨m1, h1⟩ := evRange_ok (gop := f) (aps := ps) hng hc (by simp) hr he
          exact ⟨m1, fun N F w0 ι ds a w Q hN hF ht hk hs hthr hQ => h1 N F w0 ι ds a w Q mk hN hF ht hk hs hthr (ht.all f) hQ⟩
        · cases h
      · cases h
  | .goto l, tm, mk, g, e, tm', mk', g', h => by simp [evCode] at h
  | .refuse s, tm, mk, g, e, tm', mk', g', h => by simp [evCode] at h
end
end Go.Proofs.YtjblkeofjkdpbaaGreatDoor.Eng
