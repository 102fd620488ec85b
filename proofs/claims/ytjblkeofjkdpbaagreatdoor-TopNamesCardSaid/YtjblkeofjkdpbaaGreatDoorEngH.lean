/- All operations of the evaluator are the model's. Condition: no function of the program is runtime.NumGoroutine. -/
import Derived.Test.YtjblkeofjkdpbaaGreatDoorEngS
namespace Go.Proofs.YtjblkeofjkdpbaaGreatDoor.Eng
open Go Go.RowKit
set_option linter.unusedVariables false
set_option linter.unusedSimpArgs false
/-- No function is runtime.NumGoroutine. -/
def noNumG (P : Program) : Bool := P.funcs.toList.all fun fn => !(fn.name == "runtime.NumGoroutine")
theorem noNumG_at {P : Program} (h : noNumG P = true) {f : FuncId} {fn : Func} (hf : P.funcs[f]? = some fn) : (fn.name == "runtime.NumGoroutine") = false := by
  have := List.all_eq_true.1 h fn (List.mem_of_getElem? (by rw [Array.getElem?_toList]; exact hf))
  simpa using this
section
variable {P : Program} {N : Nat} {F : Nat → Prop} {g g' : G} {ι : Io} {w0 w : World}
def FinN (P : Program) (N : Nat) (F : Nat → Prop) (w0 : World) (s : Sem Next) (av : AV) (g g' : G) (ι : Io) (w : World) : Prop :=
  ∃ ι' v w', (s.run P w = .ok (.value v) w' ∨ (s.run P w = .ok .skip w' ∧ v = undef)) ∧ VR ι' av v ∧ Step g g' ι ι' w w' ∧ Sat N F g' ι' w0 w'
theorem fin_next {s : Sem Value} {av : AV} (h : Fin P N F w0 s av g g' ι w) : FinN P N F w0 (do pure (.value (← s))) av g g' ι w := by
  obtain ⟨ι', v, w', hr, hv, st, sat⟩ := h
  exact ⟨ι', v, w', .inl (by simp only [Sem.run_bind, hr, Result.andThen_ok, Sem.run_pure]), hv, st, sat⟩
theorem finN_pure {s : Sem Next} {av : AV} {v : Value} (hs : Sat N F g ι w0 w) (hr : s.run P w = .ok (.value v) w) (hv : VR ι av v) : FinN P N F w0 s av g g ι w :=
  ⟨ι, v, w, .inl hr, hv, Step.refl _ _ _, hs⟩
theorem opnds_VRL {tm : T AV} {ρ : Operand → Value} : ∀ l : List Operand, (∀ x ∈ l, VR ι (opnd tm x) (ρ x)) → VRL ι (opnds tm l) (l.map ρ)
  | [], _ => by rw [opnds, VRL]; rfl
  | x :: l, h => by rw [opnds, VRL]; exact ⟨_, _, rfl, h x (by simp), opnds_VRL l fun y hy => h y (by simp [hy])⟩
theorem opnds'_OVR {tm : T AV} {ρ : Operand → Value} : ∀ x : Option Operand, (∀ y ∈ x.toList, VR ι (opnd tm y) (ρ y)) → OVR ι (opnds' tm x) (x.map ρ)
  | none, _ => by rw [opnds', OVR]; rfl
  | some x, h => by rw [opnds', OVR]; exact ⟨_, rfl, h x (by simp)⟩
/-! ### Equality of the call's own -/
theorem equal_of {t : TypeId} {x y : Value} {r : Bool} (h : ∀ d, (Op.equalIn (d + 1) t x y).run P w = .ok r w) : (Op.equal t x y).run P w = .ok r w := by
  simp only [Op.equal, Op.maxDepth]
  exact h 9999
theorem ownEq_ok {a b : AV} {r : Bool} {t : TypeId} {x y : Value} (h : ownEq P t a b g = some (r, g')) (hx : VR ι a x) (hy : VR ι b y) (hF : FOK F g') (hs : Sat N F g ι w0 w) (ox oy : Operand) :
    (∃ op, (op = BinOp.eql ∨ op = BinOp.neq)) ∧ (eqGuarded .eql t ox oy x y).run P w = .ok (.bool r) w ∧ (eqGuarded .neq t ox oy x y).run P w = .ok (.bool (!r)) w ∧ Step g g' ι ι w w ∧ Sat N F g' ι w0 w := by
  refine ⟨⟨.eql, .inl rfl⟩, ?_⟩
  unfold ownEq at h
  split at h
  · rename_i e k o j p hu
    split at h
    · rename_i n l g1 hkj hn hr
      cases h
      obtain rfl : k = j := beq_tt hkj
      rw [VR] at hx
      rw [VR] at hy
      obtain ⟨b, rfl, hk⟩ := hx
      obtain ⟨c, rfl, hj⟩ := hy
      obtain ⟨h1, ⟨b', q, h2, h3⟩, st, sat, _⟩ := read_ok hr hF hs
      obtain rfl : b' = b := by
        rcases hk with hk | ⟨m', hk⟩
        · rw [h2] at hk; cases hk
        · rw [h2] at hk; cases hk; rfl
      obtain rfl : b' = c := by
        rcases hj with hk | ⟨m', hk⟩
        · rw [h2] at hk; cases hk
        · rw [h2] at hk; cases hk; rfl
      have hbeq : ((⟨b', o, none⟩ : Addr) == ⟨b', p, none⟩) = Nat.beq o p := by
        rw [Bool.eq_iff_iff]
        constructor
        · intro h
          have := eq_of_beq h
          injection this with _ h2
          rw [h2]; exact Nat.beq_refl p
        · intro h
          rw [beq_tt h]
          exact beq_self_eq_true _
      have he : (Op.equal t (.pointer (some ⟨b', o, none⟩)) (.pointer (some ⟨b', p, none⟩))).run P w = .ok (Nat.beq o p) w := equal_of fun d => by
        simp [Op.equalIn, run_underlying hu, run_sz hn, sameAddr, hbeq]
      exact ⟨by simp [eqGuarded, eqGuard, binOp, he], by simp [eqGuarded, eqGuard, binOp, he], st, sat⟩
    · cases h
  · rename_i e k o hu
    cases h
    rw [VR] at hx
    rw [VR] at hy
    obtain ⟨b, rfl, hk⟩ := hx
    subst hy
    have he : (Op.equal t (.pointer (some ⟨b, o, none⟩)) (.pointer none)).run P w = .ok false w := equal_of fun d => by
      simp [Op.equalIn, run_underlying hu]
    exact ⟨by simp [eqGuarded, eqGuard, binOp, he], by simp [eqGuarded, eqGuard, binOp, he], Step.refl _ _ _, hs⟩
  · rename_i e k o hu
    cases h
    rw [VR] at hx
    rw [VR] at hy
    obtain ⟨b, rfl, hk⟩ := hy
    subst hx
    have he : (Op.equal t (.pointer none) (.pointer (some ⟨b, o, none⟩))).run P w = .ok false w := equal_of fun d => by
      simp [Op.equalIn, run_underlying hu]
    exact ⟨by simp [eqGuarded, eqGuard, binOp, he], by simp [eqGuarded, eqGuard, binOp, he], Step.refl _ _ _, hs⟩
  · rename_i e k o len cap sz n c hu
    cases h
    rw [VR] at hx
    rw [VR] at hy
    obtain ⟨b, q, rfl, _⟩ := hx
    subst hy
    have he : (Op.equal t (.slice (some ⟨b, o, none⟩) len q) (.slice none n c)).run P w = .ok false w := equal_of fun d => by
      simp [Op.equalIn, run_underlying hu]
    exact ⟨by simp [eqGuarded, eqGuard, binOp, he], by simp [eqGuarded, eqGuard, binOp, he], Step.refl _ _ _, hs⟩
  · rename_i e n c k o len cap sz hu
    cases h
    rw [VR] at hx
    rw [VR] at hy
    obtain ⟨b, q, rfl, _⟩ := hy
    subst hx
    have he : (Op.equal t (.slice none n c) (.slice (some ⟨b, o, none⟩) len q)).run P w = .ok false w := equal_of fun d => by
      simp [Op.equalIn, run_underlying hu]
    exact ⟨by simp [eqGuarded, eqGuard, binOp, he], by simp [eqGuarded, eqGuard, binOp, he], Step.refl _ _ _, hs⟩
  · rename_i hu
    cases h
    rw [VR] at hx
    rw [VR] at hy
    obtain ⟨vs, us, rfl, _⟩ := hx
    subst hy
    have he : ∀ fn, (Op.equal t (.func fn vs us) .nilFunc).run P w = .ok false w := fun fn => equal_of fun d => by
      simp [Op.equalIn, run_underlying hu]
    exact ⟨by simp [eqGuarded, eqGuard, binOp, he], by simp [eqGuarded, eqGuard, binOp, he], Step.refl _ _ _, hs⟩
  · rename_i hu
    cases h
    rw [VR] at hx
    rw [VR] at hy
    obtain ⟨vs, us, rfl, _⟩ := hy
    subst hx
    have he : ∀ fn, (Op.equal t .nilFunc (.func fn vs us)).run P w = .ok false w := fun fn => equal_of fun d => by
      simp [Op.equalIn, run_underlying hu]
    exact ⟨by simp [eqGuarded, eqGuard, binOp, he], by simp [eqGuarded, eqGuard, binOp, he], Step.refl _ _ _, hs⟩
  · cases h
/-! ### Calls -/
theorem call_run (hng : noNumG P = true) {f : FuncId} {fn : Func} {c : Code} (hf : P.funcs[f]? = some fn) (hb : fn.body = some c) (args : Array Value) (w : World) : (callFunc f args).run P w = .ok (.enter f args) w := by
  have hn := noNumG_at hng hf
  unfold callFunc
  simp only [Sem.run_bind]
  rw [show (program : Sem Program).run P w = .ok P w from rfl]
  simp only [Result.andThen_ok, hf, hn, hb, Option.isNone_some, Bool.false_eq_true, if_false]
  rfl
theorem builtin_ok {b : Builtin} {ts : Array TypeId} {type : TypeId} {cs : Array Bool} {args : List AV} {av : AV} {vs : List Value} (h : evBuiltin P b ts type args g = some (.val av g')) (hv : VRL ι args vs) (hN : g'.n ≤ N) (hF : FOK F g') (hs : Sat N F g ι w0 w) :
    FinN P N F w0 (builtin b ts type cs vs.toArray) av g g' ι w := by
  unfold evBuiltin at h
  split at h
  · rw [VRL] at hv
    obtain ⟨v1, us, rfl, h1, hv⟩ := hv
    rw [VRL] at hv
    obtain ⟨v2, us, rfl, h2, hv⟩ := hv
    rw [VRL] at hv
    subst hv
    split at h
    · rename_i t t2 e0 e1
      split at h
      · rename_i e' hk
        exact fin_next (append_ok h e0 e1 (.inl ⟨e', hk⟩) h1 h2 hN hF hs)
      · rename_i hk
        exact fin_next (append_ok h e0 e1 (.inr hk) h1 h2 hN hF hs)
      · rename_i hk
        exact fin_next (appendN_ok h e0 e1 hk h1 h2 hN hF hs)
      · cases h
    · cases h
  · rw [VRL] at hv
    obtain ⟨v1, us, rfl, h1, hv⟩ := hv
    rw [VRL] at hv
    obtain ⟨v2, us, rfl, h2, hv⟩ := hv
    rw [VRL] at hv
    subst hv
    split at h
    · rename_i t e0
      exact fin_next (copy_ok h e0 h1 h2 hF hs)
    · cases h
  · rename_i k off n cap sz
    rw [VRL] at hv
    obtain ⟨v1, us, rfl, h1, hv⟩ := hv
    rw [VRL] at hv
    subst hv
    rw [VR] at h1
    obtain ⟨b, c, rfl, _⟩ := h1
    split at h
    · rename_i e hu
      cases h
      obtain ⟨t, ht, hu⟩ := Option.bind_eq_some_iff.1 hu
      exact fin_next (Fin.pure hs (v := goInt n) (by simp [Builtin.len_, ht, run_underlying hu]) (by rw [VR]))
    · cases h
  · rw [VRL] at hv
    obtain ⟨v1, us, rfl, h1, hv⟩ := hv
    rw [VRL] at hv
    subst hv
    rw [VR] at h1
    obtain ⟨b, c, rfl⟩ := h1
    split at h
    · rename_i e hu
      cases h
      obtain ⟨t, ht, hu⟩ := Option.bind_eq_some_iff.1 hu
      exact fin_next (Fin.pure hs (v := goInt 0) (by simp [Builtin.len_, ht, run_underlying hu]) (by rw [VR]))
    · cases h
  · rw [VRL] at hv
    obtain ⟨v1, us, rfl, h1, hv⟩ := hv
    rw [VRL] at hv
    subst hv
    rw [VR] at h1
    obtain ⟨b, rfl, _⟩ := h1
    split at h
    · rename_i n e hu
      cases h
      obtain ⟨t, ht, hu⟩ := Option.bind_eq_some_iff.1 hu
      exact fin_next (Fin.pure hs (v := goInt n) (by simp [Builtin.len_, ht, run_underlying hu]) (by rw [VR]))
    · rename_i arr hu
      obtain ⟨t, ht, hu⟩ := Option.bind_eq_some_iff.1 hu
      split at h
      · rename_i n e hu2
        cases h
        exact fin_next (Fin.pure hs (v := goInt n) (by simp [Builtin.len_, ht, run_underlying hu, run_underlying hu2]) (by rw [VR]))
      · cases h
    · cases h
  · rw [VRL] at hv
    obtain ⟨v1, us, rfl, h1, hv⟩ := hv
    rw [VRL] at hv
    subst hv
    rw [VR] at h1
    obtain ⟨b, c, rfl, _, hc, _⟩ := h1
    split at h
    · rename_i e hu
      cases h
      obtain ⟨t, ht, hu⟩ := Option.bind_eq_some_iff.1 hu
      obtain rfl := hc _ rfl
      exact fin_next (Fin.pure hs (v := goInt c) (by simp [Builtin.cap_, ht, run_underlying hu]) (by rw [VR]))
    · cases h
  · rename_i k off n cap sz
    cases h
    rw [VRL] at hv
    obtain ⟨v1, us, rfl, h1, hv⟩ := hv
    rw [VRL] at hv
    subst hv
    rw [VR] at h1
    obtain ⟨b, c, rfl, hc, _, hk⟩ := h1
    refine fin_next (Fin.pure hs (v := .pointer (some ⟨b, off, none⟩)) (Lib.run_unsafeSliceData_row w ts type ⟨b, off, none⟩ _ c (by omega)) ?_)
    rw [VR]
    refine ⟨b, rfl, ?_⟩
    rcases hk with hk | ⟨m, hk, _⟩
    · exact .inl hk
    · exact .inr ⟨m, hk⟩
  · cases h
    rw [VRL] at hv
    obtain ⟨v1, us, rfl, h1, hv⟩ := hv
    rw [VRL] at hv
    subst hv
    rw [VR] at h1
    subst h1
    exact fin_next (Fin.pure hs (v := .pointer none) rfl (by rw [VR]))
  · rw [VRL] at hv
    obtain ⟨v1, us, rfl, h1, hv⟩ := hv
    rw [VRL] at hv
    obtain ⟨v2, us, rfl, h2, hv⟩ := hv
    rw [VRL] at hv
    subst hv
    rw [VR] at h1 h2
    subst h1 h2
    split at h
    · rename_i pt it hts
      cases h
      obtain rfl : ts = #[pt, it] := Array.toList_inj.1 hts
      exact fin_next (Fin.pure hs (v := .string .empty) (Lib.run_unsafeString_none w pt it type none) (by rw [VR]))
    · cases h
  · rw [VRL] at hv
    obtain ⟨v1, us, rfl, h1, hv⟩ := hv
    rw [VRL] at hv
    obtain ⟨v2, us, rfl, h2, hv⟩ := hv
    rw [VRL] at hv
    subst hv
    rw [VR] at h2
    subst h2
    split at h
    · rename_i pt it hts
      obtain rfl : ts = #[pt, it] := Array.toList_inj.1 hts
      exact fin_next (unsafeString_ok h h1 hF hs)
    · cases h
  · rw [VRL] at hv
    obtain ⟨v1, us, rfl, h1, hv⟩ := hv
    rw [VRL] at hv
    subst hv
    split at h
    · rename_i hu hr
      rw [forceNat_eq] at h
      cases h
      exact fin_next (lenMap_ok hu hr h1 hF hs)
    · cases h
  · rw [VRL] at hv
    obtain ⟨v1, us, rfl, h1, hv⟩ := hv
    rw [VRL] at hv
    subst hv
    split at h
    · rename_i t e0
      exact fin_next (clear_ok h e0 h1 hF hs)
    · cases h
  · rw [VRL] at hv
    obtain ⟨v1, us, rfl, h1, hv⟩ := hv
    rw [VRL] at hv
    obtain ⟨v2, us, rfl, h2, hv⟩ := hv
    rw [VRL] at hv
    subst hv
    split at h
    · rename_i t e0
      exact fin_next (delete_ok h e0 h1 h2 hF hs)
    · cases h
  all_goals first
    | cases h; done
    | (split at h
       · rename_i us hus
         obtain rfl := allV_VRL hus hv
         exact fin_next (plain_ok h hs)
       · cases h)
theorem isSame_find {fn : Func} (h : isSame fn = true) : Extern.findNext fn = none ∧ Extern.find fn = some Extern.AbiNoEscape.same := by
  unfold isSame at h
  rw [Bool.and_eq_true, beq_iff_eq, Option.isNone_iff_eq_none] at h
  refine ⟨h.2, ?_⟩
  unfold Extern.find
  rw [h.1]
  rfl
theorem same_run (hng : noNumG P = true) {f : FuncId} {fn : Func} (hf : P.funcs[f]? = some fn) (hb : fn.body = none) (h : isSame fn = true) (v : Value) (w : World) : (callFunc f #[v]).run P w = .ok (.value v) w := by
  have hn := noNumG_at hng hf
  obtain ⟨h1, h2⟩ := isSame_find h
  unfold callFunc
  simp only [Sem.run_bind]
  rw [show (program : Sem Program).run P w = .ok P w from rfl]
  simp only [Result.andThen_ok, hf, hn, hb, Option.isNone_none, Bool.false_eq_true, if_false, if_true, h1, h2]
  rfl
theorem callee_ok (hng : noNumG P = true) {f : AV} {args : List AV} {av : AV} {x : Value} {vs : List Value} (h : evCall_ P f args g = some (.val av g')) (hx : VR ι f x) (hv : VRL ι args vs) (hs : Sat N F g ι w0 w) :
    FinN P N F w0 (do let d ← Deferred.ofValue x vs.toArray; invoke d.target d.args) av g g' ι w := by
  unfold evCall_ at h
  split at h
  · rename_i f first captured
    rw [VR] at hx
    subst hx
    split at h
    · rename_i fn hf
      split at h
      · cases h
      · split at h
        · rename_i us hus
          obtain rfl := allV_VRL hus hv
          split at h
          · rename_i v hev
            rw [forceV_eq] at h
            cases h
            refine finN_pure hs (v := v) ?_ (by rw [VR])
            have := ev?_run hev w
            simp only [Deferred.ofValue, Sem.run_bind, Sem.run_pure, Result.andThen_ok, invoke]
            exact this
          · cases h
        · rename_i hbody _ _
          split at h
          · rename_i hsm _
            cases h
            simp only [Bool.and_eq_true, Array.isEmpty_iff] at hsm
            obtain ⟨⟨e1, e2⟩, hsm⟩ := hsm
            subst e1 e2
            rw [VRL] at hv
            obtain ⟨v, us, rfl, h1, hv⟩ := hv
            rw [VRL] at hv
            subst hv
            refine finN_pure hs (v := v) ?_ h1
            simp only [Deferred.ofValue, Sem.run_bind, Sem.run_pure, Result.andThen_ok, invoke, Array.empty_append, Array.append_empty]
            exact same_run hng hf hbody hsm v w
          · cases h
    · cases h
  · split at h
    · split at h <;> cases h
    · cases h
  · cases h
  · cases h
theorem callee_call (hng : noNumG P = true) {f : AV} {args as' : List AV} {k : FuncId} {x : Value} {vs : List Value} (h : evCall_ P f args g = some (.call (.fn k) as' g')) (hx : VR ι f x) (hv : VRL ι args vs) :
    g' = g ∧ ∃ us : List Value, VRL ι as' us ∧ ∀ w, (do let d ← Deferred.ofValue x vs.toArray; invoke d.target d.args : Sem Next).run P w = .ok (.enter k us.toArray) w := by
  unfold evCall_ at h
  split at h
  · rename_i f first captured
    rw [VR] at hx
    subst hx
    split at h
    · rename_i fn hf
      split at h
      · rename_i c hb
        cases h
        refine ⟨rfl, _, VRL_app (VRL_mapV first.toList) (VRL_app hv (VRL_mapV captured.toList)), fun w => ?_⟩
        simp only [Deferred.ofValue, Sem.run_bind, Sem.run_pure, Result.andThen_ok, invoke]
        rw [call_run hng hf hb]
        congr 2
        apply Array.toList_inj.1
        simp
      · split at h
        · split at h
          · rw [forceV_eq] at h; cases h
          · cases h
        · split at h <;> cases h
    · cases h
  · rename_i f first captured
    rw [VR] at hx
    obtain ⟨xs', bs', rfl, h1, h2⟩ := hx
    split at h
    · rename_i fn hf
      split at h
      · rename_i c hb
        cases h
        refine ⟨rfl, _, VRL_app h1 (VRL_app hv h2), fun w => ?_⟩
        simp only [Deferred.ofValue, Sem.run_bind, Sem.run_pure, Result.andThen_ok, invoke]
        rw [call_run hng hf hb]
        congr 2
        apply Array.toList_inj.1
        simp
      · cases h
    · cases h
  · cases h
  · cases h
theorem callee_yield {f : AV} {args as' : List AV} {k : Nat} {x : Value} {vs : List Value} (h : evCall_ P f args g = some (.call (.yl k) as' g')) (hx : VR ι f x) (hv : VRL ι args vs) :
    g' = g ∧ ∃ (us : List Value) (b : Nat), VRL ι as' us ∧ (ι k).is b ∧ ∀ w, (do let d ← Deferred.ofValue x vs.toArray; invoke d.target d.args : Sem Next).run P w = (Instr.yield b us.toArray).run P w := by
  unfold evCall_ at h
  split at h
  · split at h
    · split at h
      · cases h
      · split at h
        · split at h
          · rw [forceV_eq] at h; cases h
          · cases h
        · split at h <;> cases h
    · cases h
  · split at h
    · split at h <;> cases h
    · cases h
  · rename_i k'
    cases h
    rw [VR] at hx
    obtain ⟨b, rfl, hb⟩ := hx
    refine ⟨rfl, vs, b, hv, hb, fun w => ?_⟩
    simp only [Deferred.ofValue, Sem.run_bind, Sem.run_pure, Result.andThen_ok, invoke, Array.empty_append]
  · cases h
end
end Go.Proofs.YtjblkeofjkdpbaaGreatDoor.Eng
