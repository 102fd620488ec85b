/- Code, calls; a closed call that the evaluator finds true returns true. Conditions: no function is runtime.NumGoroutine; mixed orders are followed. -/
import Derived.Test.YtgkojedgamglgaaEngO
import Derived.LoopN
import Derived.Scope
namespace Go.Proofs.Ytgkojedgamglgaa.Eng
open Go Go.RowKit
set_option linter.unusedVariables false
set_option linter.unusedSimpArgs false
def Ex.to : Ex → Exit
  | .normal => .normal
  | .exit id => .exit id
  | .ret => .ret
section
variable {P : Program} {call : FuncId → List AV → G → Option (AV × G)} {Nt : Nat}
/-- An evaluation of code (or of a loop's body) is the model's. -/
def BodyOK (P : Program) (Nt : Nat) (ev : T AV → G → Option (Ex × T AV × G)) (wpc : (Exit → Act → World → Prop) → Act → World → Prop) : Prop :=
  ∀ tm g e tm' g', ev tm g = some (e, tm', g') → Mono g g' ∧ ∀ N F w0 ι a w Q, g'.n ≤ N → FOK F g' → TR ι Nt tm a → Sat N F g ι w0 w → g.thr ≤ g.n →
    (∀ ι' a' w', TR ι' Nt tm' a' → Step g g' ι ι' w w' → Sat N F g' ι' w0 w' → Q e.to a' w') → wpc Q a w
theorem loop_ok {c : Code} {body : T AV → G → Option (Ex × T AV × G)} (hb : BodyOK P Nt body fun Q a w => c.wp P Q a w) : ∀ n, BodyOK P Nt (evCode.evLoop body n) fun Q a w => Code.rounds P c Q n a w
  | 0, tm, g, e, tm', g', h => by simp [evCode.evLoop] at h
  | n + 1, tm, g, e, tm', g', h => by
    simp only [evCode.evLoop] at h
    split at h
    · rename_i tm1 g1 hbody
      obtain ⟨m1, h1⟩ := hb _ _ _ _ _ hbody
      obtain ⟨m2, h2⟩ := loop_ok hb n _ _ _ _ _ h
      refine ⟨m1.tr m2, fun N F w0 ι a w Q hN hF ht hs hthr hQ => ?_⟩
      show Code.rounds P c Q (n + 1) a w
      rw [rounds_succ]
      refine h1 N F w0 ι a w _ (Nat.le_trans m2.n hN) (m2.fok hF) ht hs hthr fun ι' a' w' ht' st sat => ?_
      exact h2 N F w0 ι' a' w' Q hN hF ht' sat (by rw [m1.thr]; exact Nat.le_trans hthr m1.n) fun ι2 a2 w2 t2 st2 sat2 => hQ ι2 a2 w2 t2 (st.trans st2) sat2
    · rename_i hne
      obtain ⟨m1, h1⟩ := hb _ _ _ _ _ h
      refine ⟨m1, fun N F w0 ι a w Q hN hF ht hs hthr hQ => ?_⟩
      show Code.rounds P c Q (n + 1) a w
      rw [rounds_succ]
      refine h1 N F w0 ι a w _ hN hF ht hs hthr fun ι' a' w' ht' st sat => ?_
      have := hQ ι' a' w' ht' st sat
      cases e with
      | normal => exact (hne _ _ h).elim
      | exit id => exact this
      | ret => exact this
theorem code_ok (hng : noNumG P = true) (hm : P.follows .mixedOrders = true) (hc : CallOK P call) (lf : Nat) : ∀ c : Code, BodyOK P Nt (evCode P call Nt lf c) fun Q a w => c.wp P Q a w
  | .skip, tm, g, e, tm', g', h => by
    simp [evCode] at h
    obtain ⟨rfl, rfl, rfl⟩ := h
    exact ⟨Mono.refl _, fun N F w0 ι a w Q hN hF ht hs hthr hQ => wp_skip (hQ ι a w ht (Step.refl _ _ _) hs)⟩
  | .label l, tm, g, e, tm', g', h => by
    simp [evCode] at h
    obtain ⟨rfl, rfl, rfl⟩ := h
    exact ⟨Mono.refl _, fun N F w0 ι a w Q hN hF ht hs hthr hQ => wp_label (hQ ι a w ht (Step.refl _ _ _) hs)⟩
  | .region id ops draw, tm, g, e, tm', g', h => by
    simp only [evCode] at h
    split at h
    · split at h
      · rename_i tm1 g1 hev
        cases h
        refine ⟨evOps_mono hc _ hev, fun N F w0 ι a w Q hN hF ht hs hthr hQ => ?_⟩
        refine wp_region ?_
        have := evOps_ok (Q := Q) hng hc hN hF ops.toList 0 (fun j => by simp) hev ht hs hthr hQ
        rw [← List.range_eq_range'] at this
        simpa using this
      · cases h
    · split at h
      · rename_i ancs hr
        split at h
        · rename_i tm1 g1 hev
          cases h
          refine ⟨evDraw_mono hc hr hev, fun N F w0 ι a w Q hN hF ht hs hthr hQ => ?_⟩
          have := evDraw_ok (Q := Q) (id := id) hng hm hc hr hev hN hF ht hs hthr hQ
          simpa using this
        · cases h
      · cases h
  | .seq x y, tm, g, e, tm', g', h => by
    simp only [evCode] at h
    split at h
    · rename_i tm1 g1 hx
      obtain ⟨m1, h1⟩ := code_ok hng hm hc lf x _ _ _ _ _ hx
      obtain ⟨m2, h2⟩ := code_ok hng hm hc lf y _ _ _ _ _ h
      refine ⟨m1.tr m2, fun N F w0 ι a w Q hN hF ht hs hthr hQ => ?_⟩
      refine wp_seq (h1 N F w0 ι a w _ (Nat.le_trans m2.n hN) (m2.fok hF) ht hs hthr fun ι' a' w' ht' st sat => ?_)
      exact h2 N F w0 ι' a' w' Q hN hF ht' sat (by rw [m1.thr]; exact Nat.le_trans hthr m1.n) fun ι2 a2 w2 t2 st2 sat2 => hQ ι2 a2 w2 t2 (st.trans st2) sat2
    · rename_i hne
      obtain ⟨m1, h1⟩ := code_ok hng hm hc lf x _ _ _ _ _ h
      refine ⟨m1, fun N F w0 ι a w Q hN hF ht hs hthr hQ => ?_⟩
      refine wp_seq (h1 N F w0 ι a w _ hN hF ht hs hthr fun ι' a' w' ht' st sat => ?_)
      have := hQ ι' a' w' ht' st sat
      cases e with
      | normal => exact (hne _ _ h).elim
      | exit id => exact this
      | ret => exact this
  | .cond c x y, tm, g, e, tm', g', h => by
    simp only [evCode] at h
    split at h
    · rename_i hcd
      obtain ⟨m1, h1⟩ := code_ok hng hm hc lf x _ _ _ _ _ h
      refine ⟨m1, fun N F w0 ι a w Q hN hF ht hs hthr hQ => ?_⟩
      have hv := ht.all c
      rw [hcd, VR] at hv
      exact wp_cond_true hv (h1 N F w0 ι a w Q hN hF ht hs hthr hQ)
    · rename_i hcd
      obtain ⟨m1, h1⟩ := code_ok hng hm hc lf y _ _ _ _ _ h
      refine ⟨m1, fun N F w0 ι a w Q hN hF ht hs hthr hQ => ?_⟩
      have hv := ht.all c
      rw [hcd, VR] at hv
      exact wp_cond_false hv (h1 N F w0 ι a w Q hN hF ht hs hthr hQ)
    · cases h
  | .block id c, tm, g, e, tm', g', h => by
    simp only [evCode] at h
    split at h
    · rename_i id' tm1 g1 hx
      obtain ⟨m1, h1⟩ := code_ok hng hm hc lf c _ _ _ _ _ hx
      split at h
      · rename_i hid
        obtain rfl : id' = id := beq_tt hid
        cases h
        refine ⟨m1, fun N F w0 ι a w Q hN hF ht hs hthr hQ => wp_block (h1 N F w0 ι a w _ hN hF ht hs hthr fun ι' a' w' ht' st sat => ?_)⟩
        show Exit.inBlock id' Q (.exit id') a' w'
        simp only [Exit.inBlock, if_true]
        exact hQ ι' a' w' ht' st sat
      · rename_i hid
        cases h
        refine ⟨m1, fun N F w0 ι a w Q hN hF ht hs hthr hQ => wp_block (h1 N F w0 ι a w _ hN hF ht hs hthr fun ι' a' w' ht' st sat => ?_)⟩
        show Exit.inBlock id Q (.exit id') a' w'
        simp only [Exit.inBlock]
        rw [if_neg (fun e => by rw [e] at hid; simp at hid)]
        exact hQ ι' a' w' ht' st sat
    · rename_i hne
      obtain ⟨m1, h1⟩ := code_ok hng hm hc lf c _ _ _ _ _ h
      refine ⟨m1, fun N F w0 ι a w Q hN hF ht hs hthr hQ => wp_block (h1 N F w0 ι a w _ hN hF ht hs hthr fun ι' a' w' ht' st sat => ?_)⟩
      have := hQ ι' a' w' ht' st sat
      cases e with
      | normal => exact this
      | exit id' => exact (hne _ _ _ h).elim
      | ret => exact this
  | .loop c, tm, g, e, tm', g', h => by
    simp only [evCode] at h
    obtain ⟨m1, h1⟩ := loop_ok (code_ok hng hm hc lf c) lf _ _ _ _ _ h
    exact ⟨m1, fun N F w0 ι a w Q hN hF ht hs hthr hQ => wp_loop_rounds lf (h1 N F w0 ι a w Q hN hF ht hs hthr hQ)⟩
  | .exit id, tm, g, e, tm', g', h => by
    simp [evCode] at h
    obtain ⟨rfl, rfl, rfl⟩ := h
    exact ⟨Mono.refl _, fun N F w0 ι a w Q hN hF ht hs hthr hQ => wp_exit (hQ ι a w ht (Step.refl _ _ _) hs)⟩
  | .scope c, tm, g, e, tm', g', h => by
    simp only [evCode] at h
    obtain ⟨m1, h1⟩ := code_ok hng hm hc lf c _ _ _ _ _ h
    refine ⟨m1, fun N F w0 ι a w Q hN hF ht hs hthr hQ => wp_scope_straight (h1 N F w0 ι a w _ hN hF ht hs hthr fun ι' a' w' ht' st sat => ?_)⟩
    have := hQ ι' a' w' ht' st sat
    cases e <;> exact this
  | .ret, tm, g, e, tm', g', h => by
    simp [evCode] at h
    obtain ⟨rfl, rfl, rfl⟩ := h
    exact ⟨Mono.refl _, fun N F w0 ι a w Q hN hF ht hs hthr hQ => wp_ret (hQ ι a w ht (Step.refl _ _ _) hs)⟩
  | .rangeFunc .., tm, g, e, tm', g', h => by simp [evCode] at h
  | .goto l, tm, g, e, tm', g', h => by simp [evCode] at h
  | .refuse s, tm, g, e, tm', g', h => by simp [evCode] at h
end
theorem argsT_get : ∀ (l : List AV) (i : Nat) (tm tm' : T AV), argsT i tm l = some tm' → ∀ j, tm'.get j = if i ≤ j ∧ j < i + l.length then l[j - i]? else tm.get j
  | [], i, tm, tm', h, j => by
    simp [argsT] at h
    subst h
    rw [if_neg (by simp)]
  | a :: l, i, tm, tm', h, j => by
    simp only [argsT] at h
    split at h
    · rename_i t1 h1
      have hget := T.set_get _ _ _ _ _ h1
      rw [argsT_get l (i + 1) t1 tm' h j]
      simp only [List.length_cons]
      by_cases e : j = i
      · subst e
        rw [if_neg (by omega), if_pos (by omega), hget, if_pos rfl]
        simp
      · by_cases e2 : i + 1 ≤ j ∧ j < i + 1 + l.length
        · rw [if_pos e2, if_pos (by omega), show j - i = (j - (i + 1)) + 1 by omega]
          simp
        · rw [if_neg e2, if_neg (by omega), hget, if_neg e]
    · cases h
theorem args_TR {ι : Io} {n : Nat} {args : List AV} {tm : T AV} {vs : List Value} (h : argsT 0 .nil args = some tm) (hv : VRL ι args vs) (hn : args.length ≤ n) : TR ι n tm { tmps := vs.toArray ++ Array.replicate (n - vs.toArray.size) undef, defers := [] } := by
  obtain ⟨h1, h2⟩ := VRL_iff.1 hv
  have hget := argsT_get _ _ _ _ h
  refine ⟨by
    show (vs.toArray ++ Array.replicate (n - vs.toArray.size) undef).size = n
    rw [Array.size_append, Array.size_replicate, List.size_toArray]; omega, rfl, fun (t : Nat) => ?_⟩
  have hg := hget t
  simp only [Nat.zero_le, Nat.zero_add, true_and, Nat.sub_zero, T.get_nil] at hg
  by_cases e : t < args.length
  · rw [if_pos e, List.getElem?_eq_getElem e] at hg
    rw [opnd_some hg]
    obtain ⟨v, hv1, hv2⟩ := h2 t _ (List.getElem?_eq_getElem e)
    have : Act.eval { tmps := vs.toArray ++ Array.replicate (n - vs.toArray.size) undef, defers := [] } (.tmp t) = v := by
      show (vs.toArray ++ Array.replicate (n - vs.toArray.size) undef).getD t undef = v
      have hlt : t < vs.length := by omega
      have hvt : vs[t] = v := by
        rw [List.getElem?_eq_getElem hlt] at hv1
        exact Option.some.inj hv1
      simp [Array.getD_eq_getD_getElem?, Array.getElem?_append, hlt, hvt]
    rw [this]
    exact hv2
  · rw [if_neg e] at hg
    have h3 : opnd tm (.tmp t) = .v undef := by simp only [opnd, hg]
    rw [h3, VR]
    show (vs.toArray ++ Array.replicate (n - vs.toArray.size) undef).getD t undef = undef
    rw [Array.getD_eq_getD_getElem?]
    rw [Array.getElem?_append_right (by rw [List.size_toArray]; omega), Array.getElem?_replicate]
    split <;> rfl
section
variable {P : Program}
theorem loadAt_as {t : TypeId} {v x : Value} {w w' : World} (h : (Instr.loadAt t v).run P w = .ok x w') : (do loadVar t (← asAddr v) : Sem Value).run P w = .ok x w' := by
  cases v with
  | pointer a =>
    cases a with
    | none => simp [Instr.loadAt, Instr.sureAddr, stuck, Sem.run] at h
    | some a => exact h
  | _ => simp [Instr.loadAt, Instr.sureAddr, stuck, Sem.run] at h
def resM (tmps : Array Value) : ResultVar → Sem Value
  | .tmp t => pure (tmps.getD t undef)
  | .cell a t => do loadVar t (← asAddr (tmps.getD a undef))
theorem res_ok {Nt : Nat} {a : Act} : ∀ (rs : List ResultVar) {tm : T AV} {g g' : G} {xs : List AV}, resA P tm g rs = some (xs, g') → Mono g g' ∧ ∀ N F w0 ι w, FOK F g' → TR ι Nt tm a → Sat N F g ι w0 w →
    ∃ vs, (rs.mapM (resM a.tmps)).run P w = .ok vs w ∧ VRL ι xs vs ∧ Step g g' ι ι w w ∧ Sat N F g' ι w0 w
  | [], tm, g, g', xs, h => by
    simp [resA] at h
    obtain ⟨rfl, rfl⟩ := h
    exact ⟨Mono.refl _, fun N F w0 ι w hF ht hs => ⟨[], rfl, by rw [VRL], Step.refl _ _ _, hs⟩⟩
  | .tmp t :: rs, tm, g, g', xs, h => by
    simp only [resA] at h
    split at h
    · rename_i ys g1 hr
      cases h
      obtain ⟨m, ih⟩ := res_ok (Nt := Nt) (a := a) rs hr
      refine ⟨m, fun N F w0 ι w hF ht hs => ?_⟩
      obtain ⟨vs, h1, h2, st, sat⟩ := ih N F w0 ι w hF ht hs
      refine ⟨a.tmps.getD t undef :: vs, ?_, ?_, st, sat⟩
      · rw [List.mapM_cons]
        simp only [resM, Sem.run_bind, Sem.run_pure, Result.andThen_ok, h1]
      · rw [VRL]
        exact ⟨_, _, rfl, ht.rel t, h2⟩
    · cases h
  | .cell t ty :: rs, tm, g, g', xs, h => by
    simp only [resA] at h
    split at h
    · rename_i av g1 hl
      split at h
      · rename_i ys g2 hr
        cases h
        have ml : Mono g g1 := by
          unfold evLoad at hl
          repeat' split at hl
          all_goals first
            | (cases hl; done)
            | (cases hl; exact Mono.read (by assumption))
        obtain ⟨m, ih⟩ := res_ok (Nt := Nt) (a := a) rs hr
        refine ⟨ml.tr m, fun N F w0 ι w hF ht hs => ?_⟩
        obtain ⟨v, h0, hv, st1, sat1⟩ := load_at (P := P) (t := ty) hl (ht.rel t) (m.fok hF) hs
        obtain ⟨vs, h1, h2, st, sat⟩ := ih N F w0 ι w hF ht sat1
        refine ⟨v :: vs, ?_, ?_, st1.trans st, sat⟩
        · rw [List.mapM_cons]
          have h0' := loadAt_as h0
          simp only [Sem.run_bind]
          rw [show (resM a.tmps (.cell t ty)).run P w = .ok v w from h0']
          simp only [Result.andThen_ok, Sem.run_bind, h1, Sem.run_pure]
        · rw [VRL]
          exact ⟨_, _, rfl, hv, h2⟩
      · cases h
    · cases h
/-- One result, or all of them together. -/
def oneV : List Value → Value
  | [v] => v
  | l => .tuple l.toArray
theorem results_run {fn : Func} {a : Act} {vs : List Value} {w w' : World} (h : (fn.results.toList.mapM (resM a.tmps)).run P w = .ok vs w') : (results fn a.tmps).run P w = .ok (oneV vs) w' := by
  have e : (fn.results.mapM (resM a.tmps)).run P w = .ok vs.toArray w' := by
    have e1 : fn.results = fn.results.toList.toArray := rfl
    rw [e1, List.mapM_toArray, map_eq_pure_bind]
    simp only [Sem.run_bind, h, Result.andThen_ok, Function.comp_apply, Sem.run_pure]
  have e2 : results fn a.tmps = (do let vs ← fn.results.mapM (resM a.tmps); pure (if h : vs.size = 1 then vs[0] else .tuple vs)) := by
    unfold results
    congr 1
  rw [e2, Sem.run_bind, e]
  simp only [Result.andThen_ok, Sem.run_pure]
  congr 1
  match vs with
  | [] => simp [oneV]
  | [v] => simp [oneV]
  | v :: u :: l => simp [oneV]
theorem resOne_VR {ι : Io} {xs : List AV} {vs : List Value} (h : VRL ι xs vs) : VR ι (resOne xs) (oneV vs) := by
  have hl := (VRL_iff.1 h).1
  match xs, vs, hl with
  | [], [], _ => exact VR_mkTup h
  | [a], [v], _ =>
    rw [VRL] at h
    obtain ⟨u, us, e, h1, _⟩ := h
    cases e
    exact h1
  | a :: b :: xs, v :: u :: vs, _ => exact VR_mkTup h
theorem evFn_ok (hng : noNumG P = true) (hm : P.follows .mixedOrders = true) (lf : Nat) : ∀ d, CallOK P (evFn P lf d)
  | 0, f, args, g, av, g', h => by simp [evFn] at h
  | d + 1, f, args, g, av, g', h => by
    simp only [evFn] at h
    split at h
    · cases h
    · rename_i fn hf
      split at h
      · cases h
      · rename_i body hb
        split at h
        · rename_i tm hn hargs
          have hn' := Nat.le_of_ble_eq_true hn
          have key : ∀ e tm1 g1 xs, evCode P (evFn P lf d) fn.ntmps lf body tm g = some (e, tm1, g1) → e = .normal ∨ e = .ret → resA P tm1 g1 fn.results.toList = some (xs, g') → av = resOne xs →
              Mono g g' ∧ ∀ N F w0 ι w (vs : List Value), g'.n ≤ N → FOK F g' → Sat N F g ι w0 w → g.thr ≤ g.n → VRL ι args vs →
                Calls P f vs.toArray w fun e w' => ∃ ι' v, e = .returned v ∧ VR ι' av v ∧ Step g g' ι ι' w w' ∧ Sat N F g' ι' w0 w' := by
            intro e tm1 g1 xs hev he hres hav
            subst hav
            obtain ⟨m1, h1⟩ := code_ok (Nt := fn.ntmps) hng hm (evFn_ok hng hm lf d) lf body _ _ _ _ _ hev
            have m2 := (res_ok (P := P) (Nt := fn.ntmps) (a := ⟨#[], []⟩) _ hres).1
            refine ⟨m1.tr m2, fun N F w0 ι w vs hN hF hs hthr hv => ?_⟩
            refine calls_of_wp hf hb (h1 N F w0 ι _ w _ (Nat.le_trans m2.n hN) (m2.fok hF) (args_TR hargs hv hn') hs hthr fun ι' a' w' ht' st sat => ?_)
            obtain ⟨us, hr, hu, st2, sat2⟩ := (res_ok (P := P) (Nt := fn.ntmps) (a := a') _ hres).2 N F w0 ι' w' hF ht' sat
            have hrun := results_run (fn := fn) hr
            have hfin : a'.defers = [] ∧ ∃ v, (results fn a'.tmps).run P w' = .ok v w' ∧ ∃ ι' v', (Ending.returned v) = .returned v' ∧ VR ι' (resOne xs) v' ∧ Step g g' ι ι' w w' ∧ Sat N F g' ι' w0 w' :=
              ⟨ht'.defers, _, hrun, ι', _, rfl, resOne_VR hu, st.trans st2, sat2⟩
            rcases he with rfl | rfl
            · exact hfin
            · exact hfin
          split at h
          · rename_i tm1 g1 hev
            split at h
            · rename_i xs g2 hres
              cases h
              exact key _ _ _ _ hev (.inl rfl) hres rfl
            · cases h
          · rename_i tm1 g1 hev
            split at h
            · rename_i xs g2 hres
              cases h
              exact key _ _ _ _ hev (.inr rfl) hres rfl
            · cases h
          · cases h
        · cases h
/-- **A closed call that the evaluator finds true returns true, and leaves what stood.** -/
theorem isTrue_ok (hng : noNumG P = true) (hm : P.follows .mixedOrders = true) {lf d : Nat} {f : FuncId} (h : isTrue P lf d f = true) (w : World) : Calls P f #[] w fun e w' => e = .returned (.bool true) ∧ Below w.heap.size w w' := by
  unfold isTrue at h
  split at h
  · rename_i g' hev
    have hs : Sat g'.n (fun _ => True) g0 (fun _ => .un) w w :=
      ⟨(fun k k' b m m' hk => by cases hk), (fun k b m hk => by cases hk), fun k _ _ => rfl, (fun k l hl => by cases hl), (fun k l _ hl => by cases hl), Below.refl _ _⟩
    have := (evFn_ok hng hm lf d _ _ _ _ _ hev).2 g'.n (fun _ => True) w _ w [] (Nat.le_refl _) ⟨fun _ _ => trivial, fun _ _ => trivial, fun _ _ => trivial⟩ hs (Nat.le_refl _) (by rw [VRL])
    refine this.mono ?_
    rintro e w' ⟨ι', v, rfl, hv, st, sat⟩
    rw [VR] at hv
    subst hv
    exact ⟨rfl, sat.bel⟩
  · cases h
end
end Go.Proofs.Ytgkojedgamglgaa.Eng
