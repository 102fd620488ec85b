/- Regions in the text's order. Condition: a call's evaluation is the model's call. -/
import Derived.Test.YtjblkeofjkdpbaaGreatDoorEngI
import Derived.OrdersIn
import Derived.LoopNIn
import Derived.RangeFuncCalls
import Derived.RangeFuncRecord
import Derived.TacticsIn
namespace Go.Proofs.YtjblkeofjkdpbaaGreatDoor.Eng
open Go Go.RowKit
set_option linter.unusedVariables false
set_option linter.unusedSimpArgs false
/-- Names only come; the log only grows; what the log has not written stands. -/
structure Mono (g g' : G) : Prop where
  n : g.n ≤ g'.n
  thr : g'.thr = g.thr
  rd : ∀ k ∈ g.rd, k ∈ g'.rd
  wr : ∀ k ∈ g.wr, k ∈ g'.wr
  rlt : ∀ k ∈ g'.rd, k ∈ g.rd ∨ k < g.thr
  wrd : ∀ k ∈ g'.wr, k ∈ g.wr ∨ k ∈ g'.rd
  habs : ∀ k, k < g.n → ¬ Wr g' k → g'.H.get k = g.H.get k
  dom : g.thr ≤ g.n → (∀ k l, g.H.get k = some l → k < g.n) → ∀ k l, g'.H.get k = some l → k < g'.n
theorem Mono.refl (g : G) : Mono g g := ⟨Nat.le_refl _, rfl, fun _ h => h, fun _ h => h, fun _ h => .inl h, fun _ h => .inl h, fun _ _ _ => rfl, fun _ h => h⟩
theorem Mono.tr {a b c : G} (h : Mono a b) (k : Mono b c) : Mono a c where
  n := Nat.le_trans h.n k.n
  thr := k.thr.trans h.thr
  rd := fun i hi => k.rd i (h.rd i hi)
  wr := fun i hi => k.wr i (h.wr i hi)
  rlt := fun i hi => by
    rcases k.rlt i hi with e | e
    · exact h.rlt i e
    · exact .inr (by rw [← h.thr]; exact e)
  wrd := fun i hi => by
    rcases k.wrd i hi with e | e
    · rcases h.wrd i e with e | e
      · exact .inl e
      · exact .inr (k.rd i e)
    · exact .inr e
  habs := fun i hi hw => (k.habs i (Nat.lt_of_lt_of_le hi h.n) hw).trans (h.habs i hi fun e => hw (e.of k.thr k.wr))
  dom := fun ht hd => k.dom (by rw [h.thr]; exact Nat.le_trans ht h.n) (h.dom ht hd)
theorem Mono.fok {g g' : G} {F : Nat → Prop} (h : Mono g g') (k : FOK F g') : FOK F g := ⟨fun i hi => k.1 i (h.rd i hi), fun i hi => k.2.1 i (h.wr i hi), fun i hi => k.2.2 i (by rw [h.thr]; exact hi)⟩
theorem Mono.read {g g' : G} {k : Nat} {l : Row} (h : g.read k = some (l, g')) : Mono g g' := by
  rw [G.read_def] at h
  unfold G.readO at h
  split at h
  · cases h
  · split at h
    · cases h
    split at h
    · rename_i hlt
      cases h
      refine ⟨Nat.le_refl _, rfl, fun i hi => by simp [hi], fun i hi => hi, fun i hi => ?_, fun i hi => .inl hi, fun _ _ _ => rfl, fun _ h => h⟩
      rcases List.mem_cons.1 hi with rfl | hi
      · exact .inr (by simpa [Nat.blt_eq] using hlt)
      · exact .inl hi
    · cases h
      exact Mono.refl _
theorem Mono.readX {g g' : G} {k : Nat} {a : AV} (h : g.readX k = some (a, g')) : Mono g g' := by
  rw [G.readX_def] at h
  unfold G.readXO at h
  split at h
  · cases h
  · split at h
    · split at h
      · rename_i hlt
        cases h
        refine ⟨Nat.le_refl _, rfl, fun i hi => by simp [hi], fun i hi => hi, fun i hi => ?_, fun i hi => .inl hi, fun _ _ _ => rfl, fun _ h => h⟩
        rcases List.mem_cons.1 hi with rfl | hi
        · exact .inr (by simpa [Nat.blt_eq] using hlt)
        · exact .inl hi
      · cases h
        exact Mono.refl _
    · cases h
theorem Mono.write {g g' : G} {k : Nat} {o : Option Row} (h : g.write k o = some g') : Mono g g' := by
  rw [G.write_def] at h
  unfold G.writeO at h
  split at h
  · cases h
  · rename_i H hH
    have hget := T.set_get _ _ _ _ _ hH
    split at h
    · rename_i hlt
      have hlt' : k < g.thr := by simpa [Nat.blt_eq] using hlt
      cases h
      refine ⟨Nat.le_refl _, rfl, fun i hi => by simp [hi], fun i hi => by simp [hi], fun i hi => ?_, fun i hi => ?_, fun i hi hw => ?_, fun ht hd i l hl => ?_⟩
      · rcases List.mem_cons.1 hi with rfl | hi
        · exact .inr hlt'
        · exact .inl hi
      · rcases List.mem_cons.1 hi with rfl | hi
        · exact .inr (by simp)
        · exact .inl hi
      · show H.get i = _
        rw [hget, if_neg (fun e : i = k => hw (.inl (by simp [e])))]
      · change H.get i = _ at hl
        rw [hget] at hl
        split at hl
        · rename_i e; subst e; exact Nat.lt_of_lt_of_le hlt' ht
        · exact hd i l hl
    · rename_i hlt
      have hge : g.thr ≤ k := by
        rcases Nat.lt_or_ge k g.thr with e | e
        · rw [show Nat.blt k g.thr = true by simpa [Nat.blt_eq] using e] at hlt; cases hlt
        · exact e
      split at h
      · rename_i hn
        have hn' : k < g.n := by simpa [Nat.blt_eq] using hn
        cases h
        refine ⟨Nat.le_refl _, rfl, fun i hi => hi, fun i hi => hi, fun i hi => .inl hi, fun i hi => .inl hi, fun i hi hw => ?_, fun ht hd i l hl => ?_⟩
        · show H.get i = _
          rw [hget, if_neg (fun e : i = k => hw (.inr (by rw [e]; exact hge)))]
        · change H.get i = _ at hl
          rw [hget] at hl
          split at hl
          · rename_i e; subst e; exact hn'
          · exact hd i l hl
      · cases h
theorem Mono.new {g g' : G} {k : Nat} {l : Row} (h : g.new l = some (k, g')) : Mono g g' := by
  rw [G.new_def] at h
  unfold G.newO at h
  split at h
  · cases h
  · rename_i H hH
    have hget := T.set_get _ _ _ _ _ hH
    rw [forceNat_eq] at h
    cases h
    refine ⟨Nat.le_succ _, rfl, fun i hi => hi, fun i hi => hi, fun i hi => .inl hi, fun i hi => .inl hi, fun i hi hw => ?_, fun ht hd i l hl => ?_⟩
    · show H.get i = _
      rw [hget, if_neg (by omega)]
    · change H.get i = _ at hl
      rw [hget] at hl
      show i < g.n + 1
      split at hl
      · omega
      · have := hd i l hl; omega
theorem Mono.newL {g g' : G} {ty : Nat} {ex : Bool} {k : Nat} {l : List AV} (h : g.newL ty ex l = some (k, g')) : Mono g g' := by
  obtain ⟨_, _, _, h1, _⟩ := newL_some h
  exact Mono.new h1
theorem Mono.cells {g g' : G} {size n : Nat} {a : AV} {cs : List AV} (h : cellsOf size a n g = some (cs, g')) : Mono g g' := by
  unfold cellsOf at h
  split at h
  · split at h
    · split at h
      · rename_i hr
        split at h
        · cases h; exact .read hr
        · cases h
      · cases h
    · cases h
  · split at h <;> cases h
    exact Mono.refl _
  · split at h <;> cases h
    exact Mono.refl _
  · split at h <;> cases h
    exact Mono.refl _
  · cases h
theorem Mono.grow {g g' : G} {elem size k len sz : Nat} {new : List AV} {row : Row} (hw : growRow elem size k len sz new g = some (row, g')) : Mono g g' := by
  obtain ⟨_, _, hr, _⟩ := growRow_ok hw
  exact Mono.read hr
section
variable {P : Program} {g g' : G}
theorem Mono.plain {s : Sem Value} {av : AV} (h : plainR P s g = some (.val av g')) : Mono g g' := by
  unfold plainR at h
  split at h
  · rw [forceV_eq] at h
    cases h
    exact Mono.refl _
  · cases h
theorem Mono.appendTo {elem size m : Nat} {s av : AV} {new : List AV} (h : evAppendTo elem size m s new g = some (.val av g')) : Mono g g' := by
  unfold evAppendTo at h
  repeat' split at h
  all_goals first
    | (cases h; done)
    | (cases h; first
        | exact Mono.refl _
        | exact Mono.newL (by assumption)
        | exact (Mono.read (by assumption)).tr (Mono.write (by assumption))
        | exact (Mono.cells (by assumption)).tr (Mono.newL (by assumption))
        | exact ((Mono.grow (by assumption)).tr (Mono.write (by assumption))).tr (Mono.new (by assumption)))
theorem Mono.ownEq {t : TypeId} {a b : AV} {r : Bool} (h : Eng.ownEq P t a b g = some (r, g')) : Mono g g' := by
  unfold Eng.ownEq at h
  repeat' split at h
  all_goals first
    | (cases h; done)
    | (cases h; first
        | exact Mono.refl _
        | exact Mono.read (by assumption))
theorem Mono.evCall {f : AV} {args : List AV} {av : AV} (h : evCall_ P f args g = some (.val av g')) : Mono g g' := by
  unfold evCall_ at h
  repeat' split at h
  all_goals try rw [forceV_eq] at h
  all_goals first
    | (cases h; done)
    | (cases h; exact Mono.refl _)
theorem Mono.evBuiltin {b : Builtin} {ts : Array TypeId} {type : TypeId} {args : List AV} {av : AV} (h : evBuiltin P b ts type args g = some (.val av g')) : Mono g g' := by
  unfold Eng.evBuiltin evAppend evAppendN evCopy evUnsafeString evClear evDelete at h
  try simp only [forceNat_eq] at h
  repeat' split at h
  all_goals first
    | (cases h; done)
    | exact Mono.plain h
    | exact (Mono.cells (by assumption)).tr (Mono.appendTo h)
    | (cases h; first
        | exact Mono.refl _
        | exact Mono.cells (by assumption)
        | exact Mono.newL (by assumption)
        | exact Mono.readX (by assumption)
        | exact (Mono.readX (by assumption)).tr (Mono.write (by assumption))
        | exact (Mono.read (by assumption)).tr (Mono.write (by assumption))
        | exact ((Mono.cells (by assumption)).tr (Mono.read (by assumption))).tr (Mono.write (by assumption)))
theorem Mono.many {r k since : Nat} {seen : List Nat} {ks : List Value} {bl : List Nat} {c : Nat} {vs : List AV} : ∀ {js : List Nat} {rs : List (AV × G)}, evNexts.many r k since seen ks bl c vs g js = some rs → ∀ x ∈ rs, Mono g x.2
  | [], rs, h, x, hx => by simp [evNexts.many] at h; subst h; cases hx
  | j :: js, rs, h, x, hx => by
    simp only [evNexts.many] at h
    split at h
    · rename_i y ys h1 h2
      cases h
      rcases List.mem_cons.1 hx with rfl | hx
      · unfold evStepAt at h1
        repeat' split at h1
        all_goals first
          | (cases h1; done)
          | (cases h1; exact Mono.write (by assumption))
      · exact Mono.many h2 x hx
    · cases h
theorem Mono.nextsAll {x : AV} {rs : List (AV × G)} (h : evNexts x g = some rs) : ∀ r ∈ rs, Mono g r.2 := by
  intro r hr
  unfold evNexts at h
  split at h
  · split at h
    · rename_i h1
      cases h
      rw [List.mem_singleton.1 hr]
      exact Mono.readX h1
    · rename_i h1
      split at h
      · rename_i h2
        split at h
        · cases h
          rw [List.mem_singleton.1 hr]
          exact (Mono.readX h1).tr (Mono.readX h2)
        · exact ((Mono.readX h1).tr (Mono.readX h2)).tr (Mono.many h r hr)
        · cases h
      · cases h
    · cases h
  · cases h
theorem Mono.nexts {x a : AV} (h : evNexts x g = some [(a, g')]) : Mono g g' := Mono.nextsAll h (a, g') (by simp)
theorem evOp_mono {tm : T AV} {o : Oper} {av : AV} (h : evOp P tm o g = some (.val av g')) : Mono g g' := by
  unfold evOp at h
  cases hop : o.op <;> rw [hop] at h <;> simp only [reduceCtorEq] at h
  case call c =>
    split at h
    · exact .evBuiltin h
    · exact .evCall h
    · cases h
  all_goals try unfold evLoad at h
  all_goals try unfold evStore at h
  all_goals try unfold evBuildSlice at h
  all_goals try unfold evConvert at h
  all_goals try unfold evMakeSlice at h
  all_goals try unfold evSlice at h
  all_goals try unfold evSliceA at h
  all_goals try unfold evField at h
  all_goals try unfold evLookup at h
  all_goals try unfold evMapUpdate at h
  all_goals try unfold evMakeMap at h
  all_goals try unfold evRangeM at h
  all_goals try unfold evNext at h
  all_goals try unfold evEntry at h
  all_goals try simp only [forceNat_eq] at h
  all_goals (repeat' split at h)
  all_goals first
    | (cases h; done)
    | exact Mono.plain h
    | (cases h; first
        | exact Mono.refl _
        | exact Mono.newL (by assumption)
        | exact Mono.new (by assumption)
        | exact Mono.ownEq (by assumption)
        | exact Mono.cells (by assumption)
        | exact (Mono.read (by assumption)).tr (Mono.write (by assumption))
        | exact Mono.read (by assumption)
        | exact Mono.readX (by assumption)
        | exact (Mono.readX (by assumption)).tr (Mono.write (by assumption))
        | exact (Mono.readX (by assumption)).tr (Mono.new (by assumption))
        | exact (Mono.readX (by assumption)).tr (Mono.readX (by assumption))
        | exact Mono.nexts (by assumption))
end
/-- Before a call memory stands. -/
theorem evOp_callg {P : Program} {g g' : G} {tm : T AV} {o : Oper} {f : Cl} {args : List AV} (h : evOp P tm o g = some (.call f args g')) : g' = g := by
  unfold evOp at h
  cases hop : o.op <;> rw [hop] at h <;> simp only [reduceCtorEq] at h
  case call c =>
    split at h
    · exfalso
      unfold evBuiltin evAppend evAppendTo evAppendN evCopy evUnsafeString evClear evDelete at h
      try simp only [forceNat_eq] at h
      repeat' split at h
      all_goals first
        | cases h; done
        | exact plain_call h
    · unfold evCall_ at h
      repeat' split at h
      all_goals try rw [forceV_eq] at h
      all_goals first
        | (cases h; done)
        | (cases h; rfl)
    · cases h
  all_goals exfalso
  all_goals try unfold evLoad at h
  all_goals try unfold evStore at h
  all_goals try unfold evBuildSlice at h
  all_goals try unfold evConvert at h
  all_goals try unfold evMakeSlice at h
  all_goals try unfold evSlice at h
  all_goals try unfold evSliceA at h
  all_goals try unfold evField at h
  all_goals try unfold evLookup at h
  all_goals try unfold evMapUpdate at h
  all_goals try unfold evMakeMap at h
  all_goals try unfold evRangeM at h
  all_goals try unfold evNext at h
  all_goals try unfold evEntry at h
  all_goals try simp only [forceNat_eq] at h
  all_goals (repeat' split at h)
  all_goals first
    | (cases h; done)
    | exact plain_call h
/-- An operation that the evaluator knows is no 'defer'. -/
theorem evOp_nodefer {P : Program} {g : G} {tm : T AV} {o : Oper} {r : OpR} (h : evOp P tm o g = some r) : ∀ c, o.op ≠ .defer c := fun c e => by
  unfold evOp at h
  rw [e] at h
  cases h
/-- The wide fence, in a round or not. -/
def FW (ro : Option Nat) : Fence := { Fence.wide with round := ro }
theorem semAt_FW {P : Program} {g : G} {tm : T AV} {o : Oper} {r : OpR} {ρ : Operand → Value} {ro : Option Nat} (h : evOp P tm o g = some r) : Oper.semAt (FW ro).round ρ o = execOp ρ o := by
  cases ro with
  | none => rfl
  | some l => exact Oper.semAt_some l ρ o (evOp_nodefer h)
/-- Temporaries. -/
structure TR (ι : Io) (Nt : Nat) (ds : List Deferred) (tm : T AV) (a : Act) : Prop where
  size : a.tmps.size = Nt
  defers : a.defers = ds
  rel : ∀ t, VR ι (opnd tm (.tmp t)) (a.eval (.tmp t))
theorem TR.all {ι : Io} {Nt : Nat} {ds : List Deferred} {tm : T AV} {a : Act} (h : TR ι Nt ds tm a) : ∀ x, VR ι (opnd tm x) (a.eval x)
  | .tmp t => h.rel t
  | .const x => by rw [opnd, VR]; rfl
  | .global x => by rw [opnd, VR]; rfl
  | .func x => by rw [opnd, VR]; rfl
theorem TR.mono {ι ι' : Io} {Nt : Nat} {ds : List Deferred} {tm : T AV} {a : Act} (h : TR ι Nt ds tm a) (hl : Le ι ι') : TR ι' Nt ds tm a := ⟨h.size, h.defers, fun t => (h.rel t).mono hl⟩
theorem opnd_some {tm : T AV} {t : Tmp} {a : AV} (h : tm.get t = some a) : opnd tm (.tmp t) = a := by simp only [opnd, h]
theorem opnd_eq {tm tm' : T AV} {t : Tmp} (h : tm'.get t = tm.get t) : opnd tm' (.tmp t) = opnd tm (.tmp t) := by simp only [opnd, h]
theorem TR.put {ι : Io} {Nt : Nat} {ds : List Deferred} {tm tm' : T AV} {a : Act} {dst : Option Tmp} {av : AV} {v : Value} (h : TR ι Nt ds tm a) (hv : VR ι av v) (hp : putT Nt tm dst av = some tm') : TR ι Nt ds tm' (a.put dst v) := by
  rw [putT_eq] at hp
  split at hp
  · cases hp
    exact h
  · rename_i d
    split at hp
    · rename_i hd
      have hd' : d < Nt := by simpa [Nat.blt_eq] using hd
      have hget := T.set_get _ _ _ _ _ hp
      refine ⟨by simp [Act.put, h.size], h.defers, fun t => ?_⟩
      have hg := hget t
      show VR ι (opnd tm' (.tmp t)) ((a.tmps.setIfInBounds d v).getD t undef)
      by_cases e : t = d
      · subst e
        rw [if_pos rfl] at hg
        have : t < a.tmps.size := by rw [h.size]; exact hd'
        rw [opnd_some hg]
        simp [this, hv]
      · rw [if_neg e] at hg
        rw [opnd_eq hg]
        have e2 : (a.tmps.setIfInBounds d v).getD t undef = a.tmps.getD t undef := by simp [Array.getElem?_setIfInBounds, Ne.symm e]
        rw [e2]
        exact h.rel t
    · cases hp
/-- The temporaries that an operation looks at are related. -/
def UR (ι : Io) (ops : List Oper) (o : Oper) (tm : T AV) (a : Act) : Prop := ∀ t ∈ usesT ops o, VR ι (opnd tm (.tmp t)) (a.eval (.tmp t))
theorem mem_tmpOf {t : Nat} : ∀ {l : List Operand}, Operand.tmp t ∈ l → t ∈ tmpOf l
  | x :: l, h => by
    rcases List.mem_cons.1 h with rfl | h
    · simp [tmpOf]
    · have ih := mem_tmpOf h
      cases x <;> simp [tmpOf, ih]
theorem UR.use {ι : Io} {ops : List Oper} {o : Oper} {tm : T AV} {a : Act} (h : UR ι ops o tm a) : ∀ x ∈ useOf o.op, VR ι (opnd tm x) (a.eval x) := fun x hx => by
  cases x with
  | tmp t =>
    refine h t ?_
    have := mem_tmpOf hx
    unfold usesT
    repeat' split
    all_goals simp [this]
  | const x => rw [opnd, VR]; rfl
  | global x => rw [opnd, VR]; rfl
  | func x => rw [opnd, VR]; rfl
theorem UR.guard {ι : Io} {ops : List Oper} {o p : Oper} {tm : T AV} {a : Act} {j d : Nat} {b : Bool} (h : UR ι ops o tm a) (hg : o.guard = some (j, b)) (hp : getL ops j = some p) (hd : p.dst = some d) : VR ι (opnd tm (.tmp d)) (a.eval (.tmp d)) := by
  refine h d ?_
  unfold usesT
  simp [hg, hp, hd]
theorem TR.uses {ι : Io} {Nt : Nat} {ds : List Deferred} {ops : List Oper} {o : Oper} {tm : T AV} {a : Act} (h : TR ι Nt ds tm a) : UR ι ops o tm a := fun t _ => h.rel t
theorem wanted_ok {ι : Io} {ops : List Oper} {tm : T AV} {a : Act} {o : Oper} {b : Bool} (h : wantedA ops tm o = some b) (ht : UR ι ops o tm a) : Region.wanted o (yielded ops.toArray a.tmps) = b := by
  unfold wantedA at h
  unfold Region.wanted
  split at h
  · rename_i hg
    cases h
    rw [hg]
  · rename_i j want hg
    rw [hg]
    dsimp only
    split at h
    · rename_i p hp0
      have hp := hp0
      rw [getL_eq] at hp
      split at h
      · rename_i d hd
        have hrel := ht.guard hg hp0 hd
        split at h
        · rename_i b' hb
          rw [opnd_some hb, VR] at hrel
          have hv : a.tmps[d]? = some (.bool b') := by
            change a.tmps.getD d undef = _ at hrel
            rw [Array.getD_eq_getD_getElem?] at hrel
            cases e : a.tmps[d]? with
            | none => rw [e] at hrel; cases hrel
            | some v => rw [e] at hrel; simp at hrel; rw [hrel]
          have hy : yielded ops.toArray a.tmps j = some b' := by
            unfold yielded
            simp [hp, hd, hv]
          rw [hy]
          cases b' <;> cases want <;> simp at h <;> subst h <;> rfl
        · rename_i vs hb
          cases h
          rw [opnd_some hb, VR] at hrel
          change a.tmps.getD d undef = _ at hrel
          rw [Array.getD_eq_getD_getElem?] at hrel
          have hy : yielded ops.toArray a.tmps j = none := by
            unfold yielded
            cases e : a.tmps[d]? with
            | none => simp [hp, hd, e]
            | some v =>
              rw [e] at hrel
              simp at hrel
              subst hrel
              simp [hp, hd, e]
          rw [hy]; rfl
        · cases h
      · cases h
    · cases h
/-- A call's evaluation is the model's. -/
def Post (N : Nat) (F : Nat → Prop) (w0 : World) (av : AV) (g g' : G) (ι : Io) (w : World) : Ending → World → Prop := fun e w' => ∃ ι' v, e = .returned v ∧ VR ι' av v ∧ Step g g' ι ι' w w' ∧ Sat N F g' ι' w0 w'
/-- The call as the model carries it out: a function, a round. -/
def Ran (P : Program) (ι : Io) (w : World) (vs : List Value) (R : Ending → World → Prop) : Cl → Prop
  | .fn f => CallsIn Fence.wide 0 P f vs.toArray w R
  | .yl k => ∀ b, (ι k).is b → ∃ fn tmps asg bd, (Instr.yield b vs.toArray).run P w = .ok (.round b fn tmps asg bd) w ∧ RoundIn Fence.wide 0 P b fn tmps asg bd w R
def CallOK (P : Program) (call : Cl → List AV → G → Option (AV × G)) : Prop :=
  ∀ c args g av g', call c args g = some (av, g') → Mono g g' ∧ ∀ N F w0 ι w (vs : List Value), g'.n ≤ N → FOK F g' → Sat N F g ι w0 w → g.thr ≤ g.n → VRL ι args vs → Ran P ι w vs (Post N F w0 av g g' ι w) c
section
variable {P : Program} {N Nt : Nat} {F : Nat → Prop} {g g' : G} {ι : Io} {w0 w : World} {call : Cl → List AV → G → Option (AV × G)}
theorem evOne_mono (hc : CallOK P call) {ops : List Oper} {tm : T AV} {o : Oper} {av : AV} (h : evOne P call ops tm o g = some (av, g')) : Mono g g' := by
  unfold evOne at h
  split at h
  · split at h
    · rename_i ho
      cases h
      exact evOp_mono ho
    · rename_i f args g1 ho
      have e : g1 = g := evOp_callg ho
      subst e
      exact (hc _ _ _ _ _ h).1
    · cases h
  · cases h; exact Mono.refl _
  · cases h
theorem evOne_ok (hng : noNumG P = true) (hc : CallOK P call) {ro : Option Nat} {ops : List Oper} {tm : T AV} {o : Oper} {av : AV} {a : Act} {K : Act → World → Prop} {Q : Exit → Act → World → Prop} (h : evOne P call ops tm o g = some (av, g'))
    (ht : UR ι ops o tm a) (hN : g'.n ≤ N) (hF : FOK F g') (hs : Sat N F g ι w0 w) (hthr : g.thr ≤ g.n)
    (hK : ∀ ι' v w', VR ι' av v → Step g g' ι ι' w w' → Sat N F g' ι' w0 w' → K (a.put o.dst v) w') :
    if Region.wanted o (yielded ops.toArray a.tmps) = true then o.wpIn (FW ro) 0 P a w K Q else K (a.put o.dst undef) w := by
  unfold evOne at h
  split at h
  · rename_i hw
    rw [wanted_ok hw ht, if_pos rfl]
    refine ⟨fun _ _ => trivial, ?_⟩
    split at h
    · rename_i av1 g1 ho
      rw [semAt_FW ho]
      cases h
      obtain ⟨ι', v, w', hr, hv, st, sat⟩ := evOp_val hng ht.use ho hN hF hs
      rcases hr with hr | ⟨hr, rfl⟩
      · rw [hr]
        exact hK ι' v w' hv st sat
      · rw [hr]
        exact hK ι' undef w' hv st sat
    · rename_i c args g1 ho
      rw [semAt_FW ho]
      obtain rfl : g1 = g := evOp_callg ho
      cases c with
      | fn f =>
        obtain ⟨_, us, hu, hr⟩ := evOp_call hng ht.use ho
        rw [hr w]
        refine ⟨fun h => (by cases h), ?_⟩
        have hcall : CallsIn Fence.wide 0 P f us.toArray w (Post N F w0 av g1 g' ι w) := (hc _ _ _ _ _ h).2 N F w0 ι w us hN hF hs hthr hu
        refine CallsIn.mono (F := FW ro) hcall ?_
        rintro e w' ⟨ι', v, rfl, hv, st, sat⟩
        exact hK ι' v w' hv st sat
      | yl k =>
        obtain ⟨_, us, b, hu, hb, hr⟩ := evOp_yield ht.use ho
        rw [hr w]
        obtain ⟨fn, tmps, asg, bd, hy, hrd⟩ := (hc _ _ _ _ _ h).2 N F w0 ι w us hN hF hs hthr hu b hb
        rw [hy]
        refine ⟨fun h => (by cases h), ?_⟩
        refine RoundIn.mono (F := FW ro) hrd ?_
        rintro e w' ⟨ι', v, rfl, hv, st, sat⟩
        exact hK ι' v w' hv st sat
    · cases h
  · rename_i hw
    rw [wanted_ok hw ht, if_neg (by simp)]
    cases h
    exact hK ι undef w (by rw [VR]) (Step.refl _ _ _) hs
  · cases h
theorem evOps_mono (hc : CallOK P call) {ops : List Oper} : ∀ (os : List Oper) {g g' : G} {tm tm' : T AV}, evOps P call Nt ops os tm g = some (tm', g') → Mono g g'
  | [], g, g', tm, tm', h => by simp [evOps] at h; rw [h.2]; exact Mono.refl _
  | o :: os, g, g', tm, tm', h => by
    simp only [evOps] at h
    split at h
    · rename_i av g1 ho
      split at h
      · exact (evOne_mono hc ho).tr (evOps_mono hc os h)
      · cases h
    · cases h
theorem evOps_ok (hng : noNumG P = true) (hc : CallOK P call) {ro : Option Nat} {ds : List Deferred} {ops : List Oper} {Q : Exit → Act → World → Prop} {tm' : T AV} (hN : g'.n ≤ N) (hF : FOK F g') :
    ∀ (os : List Oper) (i : Nat) {g : G} {tm : T AV} {ι : Io} {w : World} {a : Act}, (∀ j, ops[i + j]? = os[j]?) → evOps P call Nt ops os tm g = some (tm', g') → TR ι Nt ds tm a → Sat N F g ι w0 w → g.thr ≤ g.n →
      (∀ ι' a' w', TR ι' Nt ds tm' a' → Step g g' ι ι' w w' → Sat N F g' ι' w0 w' → Q .normal a' w') → wpOpsIn (FW ro) 0 P ops.toArray Q (List.range' i os.length) a w
  | [], i, g, tm, ι, w, a, hi, h, ht, hs, hthr, hQ => by
    simp [evOps] at h
    obtain ⟨rfl, rfl⟩ := h
    exact hQ ι a w ht (Step.refl _ _ _) hs
  | o :: os, i, g, tm, ι, w, a, hi, h, ht, hs, hthr, hQ => by
    simp only [evOps] at h
    split at h
    · rename_i av g1 ho
      split at h
      · rename_i tm1 hput
        have hm := evOps_mono hc os h
        have ho' : ops[i]? = some o := by have := hi 0; simpa using this
        rw [List.length_cons, List.range'_succ, wpOpsIn_cons]
        unfold wpOpIn
        rw [show ops.toArray[i]? = some o by simpa using ho']
        dsimp only
        have := evOne_ok (ro := ro) (K := wpOpsIn (FW ro) 0 P ops.toArray Q (List.range' (i + 1) os.length)) (Q := Q) hng hc ho ht.uses (Nat.le_trans hm.n hN) (hm.fok hF) hs hthr (fun ι' v w' hv st sat => by
          exact evOps_ok hng hc hN hF os (i + 1) (fun j => by have := hi (j + 1); rw [show i + 1 + j = i + (j + 1) by omega]; simpa using this) h ((ht.mono st.le).put hv hput) sat (by rw [st.thr]; exact Nat.le_trans hthr st.n)
            (fun ι2 a2 w2 ht2 st2 sat2 => hQ ι2 a2 w2 ht2 (st.trans st2) sat2))
        split
        · rename_i hw
          rw [if_pos hw] at this
          exact this
        · rename_i hw
          rw [if_neg hw] at this
          exact ⟨fun _ _ => trivial, this⟩
      · cases h
    · cases h
end
end Go.Proofs.YtjblkeofjkdpbaaGreatDoor.Eng
