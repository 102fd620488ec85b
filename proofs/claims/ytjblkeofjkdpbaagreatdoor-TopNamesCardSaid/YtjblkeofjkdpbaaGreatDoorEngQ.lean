/- Rounds, calls; a closed call that the evaluator finds true returns true. Conditions: no function is runtime.NumGoroutine; mixed orders are followed. -/
import Derived.Test.YtjblkeofjkdpbaaGreatDoorEngT
namespace Go.Proofs.YtjblkeofjkdpbaaGreatDoor.Eng
open Go Go.RowKit
set_option linter.unusedVariables false
set_option linter.unusedSimpArgs false
theorem args_TR {ι : Io} {n : Nat} {args : List AV} {tm : T AV} {vs : List Value} (h : argsT 0 .nil args = some tm) (hv : VRL ι args vs) (hn : args.length ≤ n) : TR ι n [] tm { tmps := vs.toArray ++ Array.replicate (n - vs.toArray.size) undef, defers := [] } := by
  obtain ⟨h1, h2⟩ := VRL_iff.1 hv
  have hget := argsT_get _ _ _ _ h
  refine ⟨by
    show (vs.toArray ++ Array.replicate (n - vs.toArray.size) undef).size = n
    rw [Array.size_append, Array.size_replicate, List.size_toArray]; omega, rfl, fun (t : Nat) => ?_⟩
  have hg := hget t
  simp only [Nat.zero_le, Nat.zero_add, true_and, Nat.sub_zero, T.get_nil] at hg
  by_cases e : t < args.length
  · rw [if_pos e, List.getElem?_eq_getElem e] at hg
    rw [opnd_some hg]
    obtain ⟨v, hv1, hv2⟩ := h2 t _ (List.getElem?_eq_getElem e)
    have : Act.eval { tmps := vs.toArray ++ Array.replicate (n - vs.toArray.size) undef, defers := [] } (.tmp t) = v := by
      show (vs.toArray ++ Array.replicate (n - vs.toArray.size) undef).getD t undef = v
      have hlt : t < vs.length := by omega
      have hvt : vs[t] = v := by
        rw [List.getElem?_eq_getElem hlt] at hv1
        exact Option.some.inj hv1
      simp [Array.getD_eq_getD_getElem?, Array.getElem?_append, hlt, hvt]
    rw [this]
    exact hv2
  · rw [if_neg e] at hg
    have h3 : opnd tm (.tmp t) = .v undef := by simp only [opnd, hg]
    rw [h3, VR]
    show (vs.toArray ++ Array.replicate (n - vs.toArray.size) undef).getD t undef = undef
    rw [Array.getD_eq_getD_getElem?]
    rw [Array.getElem?_append_right (by rw [List.size_toArray]; omega), Array.getElem?_replicate]
    split <;> rfl
section
variable {P : Program}
theorem loadAt_as {t : TypeId} {v x : Value} {w w' : World} (h : (Instr.loadAt t v).run P w = .ok x w') : (do loadVar t (← asAddr v) : Sem Value).run P w = .ok x w' := by
  cases v with
  | pointer a =>
    cases a with
    | none => simp [Instr.loadAt, Instr.sureAddr, stuck, Sem.run] at h
    | some a => exact h
  | _ => simp [Instr.loadAt, Instr.sureAddr, stuck, Sem.run] at h
def resM (tmps : Array Value) : ResultVar → Sem Value
  | .tmp t => pure (tmps.getD t undef)
  | .cell a t => do loadVar t (← asAddr (tmps.getD a undef))
theorem res_ok {Nt : Nat} {ds : List Deferred} {a : Act} : ∀ (rs : List ResultVar) {tm : T AV} {g g' : G} {xs : List AV}, resA P tm g rs = some (xs, g') → Mono g g' ∧ ∀ N F w0 ι w, FOK F g' → TR ι Nt ds tm a → Sat N F g ι w0 w →
    ∃ vs, (rs.mapM (resM a.tmps)).run P w = .ok vs w ∧ VRL ι xs vs ∧ Step g g' ι ι w w ∧ Sat N F g' ι w0 w
  | [], tm, g, g', xs, h => by
    simp [resA] at h
    obtain ⟨rfl, rfl⟩ := h
    exact ⟨Mono.refl _, fun N F w0 ι w hF ht hs => ⟨[], rfl, by rw [VRL], Step.refl _ _ _, hs⟩⟩
  | .tmp t :: rs, tm, g, g', xs, h => by
    simp only [resA] at h
    split at h
    · rename_i ys g1 hr
      cases h
      obtain ⟨m, ih⟩ := res_ok (Nt := Nt) (ds := ds) (a := a) rs hr
      refine ⟨m, fun N F w0 ι w hF ht hs => ?_⟩
      obtain ⟨vs, h1, h2, st, sat⟩ := ih N F w0 ι w hF ht hs
      refine ⟨a.tmps.getD t undef :: vs, ?_, ?_, st, sat⟩
      · rw [List.mapM_cons]
        simp only [resM, Sem.run_bind, Sem.run_pure, Result.andThen_ok, h1]
      · rw [VRL]
        exact ⟨_, _, rfl, ht.rel t, h2⟩
    · cases h
  | .cell t ty :: rs, tm, g, g', xs, h => by
    simp only [resA] at h
    split at h
    · rename_i av g1 hl
      split at h
      · rename_i ys g2 hr
        cases h
        have ml : Mono g g1 := by
          unfold evLoad at hl
          repeat' split at hl
          all_goals first
            | (cases hl; done)
            | (cases hl; exact Mono.read (by assumption))
        obtain ⟨m, ih⟩ := res_ok (Nt := Nt) (ds := ds) (a := a) rs hr
        refine ⟨ml.tr m, fun N F w0 ι w hF ht hs => ?_⟩
        obtain ⟨v, h0, hv, st1, sat1⟩ := load_at (P := P) (t := ty) hl (ht.rel t) (m.fok hF) hs
        obtain ⟨vs, h1, h2, st, sat⟩ := ih N F w0 ι w hF ht sat1
        refine ⟨v :: vs, ?_, ?_, st1.trans st, sat⟩
        · rw [List.mapM_cons]
          have h0' := loadAt_as h0
          simp only [Sem.run_bind]
          rw [show (resM a.tmps (.cell t ty)).run P w = .ok v w from h0']
          simp only [Result.andThen_ok, Sem.run_bind, h1, Sem.run_pure]
        · rw [VRL]
          exact ⟨_, _, rfl, hv, h2⟩
      · cases h
    · cases h
/-- One result, or all of them together. -/
def oneV : List Value → Value
  | [v] => v
  | l => .tuple l.toArray
theorem results_run {fn : Func} {a : Act} {vs : List Value} {w w' : World} (h : (fn.results.toList.mapM (resM a.tmps)).run P w = .ok vs w') : (results fn a.tmps).run P w = .ok (oneV vs) w' := by
  have e : (fn.results.mapM (resM a.tmps)).run P w = .ok vs.toArray w' := by
    have e1 : fn.results = fn.results.toList.toArray := rfl
    rw [e1, List.mapM_toArray, map_eq_pure_bind]
    simp only [Sem.run_bind, h, Result.andThen_ok, Function.comp_apply, Sem.run_pure]
  have e2 : results fn a.tmps = (do let vs ← fn.results.mapM (resM a.tmps); pure (if h : vs.size = 1 then vs[0] else .tuple vs)) := by
    unfold results
    congr 1
  rw [e2, Sem.run_bind, e]
  simp only [Result.andThen_ok, Sem.run_pure]
  congr 1
  match vs with
  | [] => simp [oneV]
  | [v] => simp [oneV]
  | v :: u :: l => simp [oneV]
theorem resOne_VR {ι : Io} {xs : List AV} {vs : List Value} (h : VRL ι xs vs) : VR ι (resOne xs) (oneV vs) := by
  have hl := (VRL_iff.1 h).1
  match xs, vs, hl with
  | [], [], _ => exact VR_mkTup h
  | [a], [v], _ =>
    rw [VRL] at h
    obtain ⟨u, us, e, h1, _⟩ := h
    cases e
    exact h1
  | a :: b :: xs, v :: u :: vs, _ => exact VR_mkTup h

theorem marks_ok {fn : Func} {tmps : Array Value} {R : Ending → World → Prop} : ∀ (mk : List Nat) {g g' : G}, evMarks mk g = some g' → Mono g g' ∧ ∀ N F w0 ι ds w, FOK F g' → MK ι mk ds → Sat N F g ι w0 w →
    (∀ w', Step g g' ι ι w w' → Sat N F g' ι w0 w' → LeavesIn Fence.wide 0 P fn tmps R [] .returning w') → LeavesInM Fence.wide 0 P fn tmps R ds .returning w
  | [], g, g', h => by
    simp [evMarks] at h
    subst h
    refine ⟨Mono.refl _, fun N F w0 ι ds w hF hk hs hR => ?_⟩
    cases hk
    exact hR w (Step.refl _ _ _) hs
  | k :: ks, g, g', h => by
    simp only [evMarks] at h
    split at h
    · rename_i g1 hr
      split at h
      · rename_i g2 hw
        obtain ⟨m, ih⟩ := marks_ok ks h
        refine ⟨((Mono.readX hr).tr (Mono.write hw)).tr m, fun N F w0 ι ds w hF hk hs hR => ?_⟩
        obtain ⟨D, ds', rfl, hD, hk⟩ := hk
        have hF2 := m.fok hF
        obtain ⟨h1, ⟨b, m', h2, h3⟩, st1, sat1, e1, _⟩ := readX_ok hr ((Mono.write hw).fok hF2) hs
        obtain rfl := is_at hD h2
        have h3' : w.heap[D]? = some (.deferred (some [])) := h3
        have hlt : D < w.heap.size := (Array.getElem?_eq_some_iff.1 h3').1
        obtain ⟨st2, sat2, _⟩ := writeX_ok (o := .deferred none) hw hF2 sat1 (by rw [e1]; exact h1) h2 trivial
        refine ⟨by simp, .inl ⟨D, _, rfl, run_takeDeferred h3', ?_⟩⟩
        exact ih N F w0 ι ds' _ hF hk sat2 fun w' st sat => hR w' ((st1.trans st2).trans st) sat
      · cases h
    · cases h
theorem loop_mk {body : T AV → List Nat → G → Option (Ex × T AV × List Nat × G)} (hb : ∀ tm mk g e tm' mk' g', body tm mk g = some (e, tm', mk', g') → mk' = mk) : ∀ n tm mk g e tm' mk' g', evCode.evLoop body n tm mk g = some (e, tm', mk', g') → mk' = mk
  | 0, tm, mk, g, e, tm', mk', g', h => by simp [evCode.evLoop] at h
  | n + 1, tm, mk, g, e, tm', mk', g', h => by
    simp only [evCode.evLoop] at h
    split at h
    · rename_i hbody
      rw [loop_mk hb n _ _ _ _ _ _ _ h, hb _ _ _ _ _ _ _ hbody]
    · exact hb _ _ _ _ _ _ _ h
/-- A round leaves no mark. -/
theorem code_mk {call : Cl → List AV → G → Option (AV × G)} {nt lf : Nat} : ∀ (c : Code) tm mk g e tm' mk' g', evCode P call nt lf true c tm mk g = some (e, tm', mk', g') → mk' = mk
  | .skip, tm, mk, g, e, tm', mk', g', h => by simp [evCode] at h; exact h.2.2.1.symm
  | .label l, tm, mk, g, e, tm', mk', g', h => by simp [evCode] at h; exact h.2.2.1.symm
  | .region id ops draw, tm, mk, g, e, tm', mk', g', h => by
    simp only [evCode] at h
    repeat' split at h
    all_goals cases h
    all_goals rfl
  | .seq x y, tm, mk, g, e, tm', mk', g', h => by
    simp only [evCode] at h
    split at h
    · rename_i hx
      rw [code_mk y _ _ _ _ _ _ _ h, code_mk x _ _ _ _ _ _ _ hx]
    · exact code_mk x _ _ _ _ _ _ _ h
  | .cond c x y, tm, mk, g, e, tm', mk', g', h => by
    simp only [evCode] at h
    split at h
    · exact code_mk x _ _ _ _ _ _ _ h
    · exact code_mk y _ _ _ _ _ _ _ h
    · cases h
  | .block id c, tm, mk, g, e, tm', mk', g', h => by
    simp only [evCode] at h
    split at h
    · rename_i hx
      have := code_mk c _ _ _ _ _ _ _ hx
      split at h <;> cases h <;> exact this
    · exact code_mk c _ _ _ _ _ _ _ h
  | .loop c, tm, mk, g, e, tm', mk', g', h => by
    simp only [evCode] at h
    exact loop_mk (fun _ _ _ _ _ _ _ hh => code_mk c _ _ _ _ _ _ _ hh) lf _ _ _ _ _ _ _ h
  | .exit id, tm, mk, g, e, tm', mk', g', h => by simp [evCode] at h; exact h.2.2.1.symm
  | .scope c, tm, mk, g, e, tm', mk', g', h => by
    simp only [evCode] at h
    exact code_mk c _ _ _ _ _ _ _ h
  | .ret, tm, mk, g, e, tm', mk', g', h => by simp [evCode] at h; exact h.2.2.1.symm
  | .rangeFunc f ps asg bd, tm, mk, g, e, tm', mk', g', h => by simp [evCode] at h
  | .goto l, tm, mk, g, e, tm', mk', g', h => by simp [evCode] at h
  | .refuse s, tm, mk, g, e, tm', mk', g', h => by simp [evCode] at h
theorem putsT_ok {ι : Io} {nt : Nat} : ∀ (ps : List Nat) {tm tm' : T AV} {args : List AV} {vs : List Value} {ts : Array Value}, putsT nt tm ps args = some tm' → VRL ι args vs → TM ι nt tm ts →
    ps.length = vs.length ∧ TM ι nt tm' ((ps.zip vs).foldl (fun t (p, v) => t.setIfInBounds p v) ts)
  | [], tm, tm', args, vs, ts, h, hv, ht => by
    cases args with
    | nil =>
      simp [putsT] at h
      subst h
      rw [VRL] at hv
      subst hv
      exact ⟨rfl, ht⟩
    | cons a l => simp [putsT] at h
  | p :: ps, tm, tm', args, vs, ts, h, hv, ht => by
    cases args with
    | nil => simp [putsT] at h
    | cons a l =>
      rw [VRL] at hv
      obtain ⟨v, us, rfl, h1, h2⟩ := hv
      simp only [putsT] at h
      split at h
      · rename_i t1 hp
        have hT : TR ι nt [] tm { tmps := ts, defers := [] } := ⟨ht.1, rfl, ht.2⟩
        have := hT.put h1 hp
        obtain ⟨h3, h4⟩ := putsT_ok ps h h2 (ts := ts.setIfInBounds p v) ⟨this.size, this.rel⟩
        exact ⟨by simp [h3], h4⟩
      · cases h
theorem round_ok (hng : noNumG P = true) (hm : P.follows .mixedOrders = true) {call : Cl → List AV → G → Option (AV × G)} (hc : CallOK P call) {lf k : Nat} {args : List AV} {g g' : G} {av : AV} (h : evRound P call lf k args g = some (av, g')) :
    Mono g g' ∧ ∀ N F w0 ι w (vs : List Value), g'.n ≤ N → FOK F g' → Sat N F g ι w0 w → g.thr ≤ g.n → VRL ι args vs → Ran P ι w vs (Post N F w0 av g g' ι w) (.yl k) := by
  unfold evRound at h
  split at h
  · rename_i st jmp nt tm ps asg bd ga hr1
    split at h
    · rename_i tm1 hputs
      split at h
      · rename_i tm2 mk2 gb hasg
        split at h
        · rename_i st2 jmp2 nt2 tm3 ps2 asg2 bd2 gc hr2
          split at h
          · rename_i gd hw1
            split at h
            · rename_i e tm4 mk4 ge hbd
              split at h
              · rename_i st3 jmp3 nt3 tm5 ps3 asg3 bd3 gf hr3
                have fin : ∀ (j stn : Nat) (bb : Bool), jumpTo e = j → g.n = g.n → gf.write k (some (.odd (.lp stn j nt3 tm5 ps3 asg3 bd3))) = some g' → av = .v (.bool bb) → (stTo stn = if (jumpC j).isNone then .ready else .done) → bb = (jumpC j).isNone →
                    Mono g g' ∧ ∀ N F w0 ι w (vs : List Value), g'.n ≤ N → FOK F g' → Sat N F g ι w0 w → g.thr ≤ g.n → VRL ι args vs → Ran P ι w vs (Post N F w0 av g g' ι w) (.yl k) := by
                  intro j stn bb hj _ hw2 hav hst hbb
                  subst hav
                  have M1 := Mono.readX hr1
                  have M2 := (code_ok (Nt := nt) hng hm hc lf (some 0) asg _ _ _ _ _ _ _ hasg).1
                  have M3 := Mono.readX hr2
                  have M4 := Mono.write hw1
                  have M5 := (code_ok (Nt := nt) hng hm hc lf (some 0) bd _ _ _ _ _ _ _ hbd).1
                  have M6 := Mono.readX hr3
                  have M7 := Mono.write hw2
                  refine ⟨(((((M1.tr M2).tr M3).tr M4).tr M5).tr M6).tr M7, fun N F w0 ι w vs hN hF hs hthr hv b hb => ?_⟩
                  have F6 := M7.fok hF
                  have F5 := M6.fok F6
                  have F4 := M5.fok F5
                  have F3 := M4.fok F4
                  have F2 := M3.fok F3
                  have F1 := M2.fok F2
                  have N6 := Nat.le_trans M7.n hN
                  have N5 := Nat.le_trans M6.n N6
                  have N4 := Nat.le_trans M5.n N5
                  have N3 := Nat.le_trans M4.n N4
                  have N2 := Nat.le_trans M3.n N3
                  obtain ⟨h1, ⟨b', m', h2, h3⟩, sta, sata, e1, n1⟩ := readX_ok hr1 F1 hs
                  obtain rfl := is_at hb h2
                  obtain ⟨r, hq1, hq2, hq3, hq4, hq5, hq6, hq7⟩ := h3
                  obtain ⟨hlen, hT⟩ := putsT_ok ps hputs hv hq7
                  refine ⟨r.fn, _, r.assign, r.body, run_yield hq1 (by rw [hq4]; simp [hlen]), ?_⟩
                  rw [hq4, hq5, hq6]
                  have ez : (ps.toArray.zip vs.toArray).foldl (fun tmps (t, a) => tmps.setIfInBounds t a) r.tmps = (ps.zip vs).foldl (fun t (p, v) => t.setIfInBounds p v) r.tmps := by
                    rw [List.zip_toArray, List.foldl_toArray]
                  rw [ez]
                  refine roundIn_of_wpIn trivial ?_
                  refine (code_ok (Nt := nt) hng hm hc lf (some b) asg _ _ _ _ _ _ _ hasg).2 N F w0 ι [] _ w _ N2 F2 (⟨hT.1, rfl, hT.2⟩ : TR ι nt [] tm1 { tmps := (ps.zip vs).foldl (fun t (p, v) => t.setIfInBounds p v) r.tmps, defers := [] }) rfl sata (by rw [M1.thr, n1]; exact hthr) fun ιa dsa aa wa hta hka stb satb => ?_
                  obtain ⟨h1a, ⟨b1, m1, h2a, h3a⟩, stc, satc, e2, n2⟩ := readX_ok hr2 F3 satb
                  obtain rfl := stb.le.keep h2 h2a
                  obtain ⟨ra, ha1, ha2, ha3, ha4, ha5, ha6, ha7⟩ := h3a
                  have hlt : b1 < wa.heap.size := (Array.getElem?_eq_some_iff.1 ha1).1
                  refine ⟨_, run_beginRound ha1 ha2, ?_⟩
                  obtain ⟨std, satd, n3⟩ := writeX_ok (o := .loop { ra with state := .busy }) hw1 F4 satc (by rw [e2]; exact h1a) h2a ⟨_, World.putObj_heap_same hlt, rfl, ha3, ha4, ha5, ha6, ha7⟩
                  have thrB : gb.thr ≤ gb.n := by rw [M2.thr, M1.thr]; exact Nat.le_trans hthr (Nat.le_trans M1.n M2.n)
                  have hds : dsa = [] := by
                    rw [code_mk _ _ _ _ _ _ _ _ hasg] at hka
                    exact hka
                  refine (code_ok (Nt := nt) hng hm hc lf (some b1) bd _ _ _ _ _ _ _ hbd).2 N F w0 ιa [] aa _ _ N5 F5 (by rw [← hds]; exact hta) rfl satd (by rw [M4.thr, M3.thr]; exact Nat.le_trans thrB (Nat.le_trans M3.n M4.n)) fun ιb dsb ab wb htb hkb ste sate => ?_
                  obtain ⟨h1b, ⟨b2, m2, h2b, h3b⟩, stf, satf, e3, n4⟩ := readX_ok hr3 F6 sate
                  obtain rfl := ste.le.keep h2a h2b
                  obtain ⟨rb, hb1, hb2, hb3, hb4, hb5, hb6, hb7⟩ := h3b
                  have hlt2 : b2 < wb.heap.size := (Array.getElem?_eq_some_iff.1 hb1).1
                  obtain ⟨stg, satg, n5⟩ := writeX_ok (o := .loop { rb with state := if (jumpC j).isNone then .ready else .done, pending := jumpC j }) hw2 hF satf (by rw [e3]; exact h1b) h2b ⟨_, World.putObj_heap_same hlt2, hst.symm, rfl, hb4, hb5, hb6, hb7⟩
                  have stAll := (((((sta.trans stb).trans stc).trans std).trans ste).trans stf).trans stg
                  have hend := run_endRound (P := P) (jumpC j) hb1
                  have key : ∃ v w', (Instr.endRound b2 (jumpC j)).run P wb = .ok v w' ∧ Post N F w0 (.v (.bool bb)) g g' ι w (.returned v) w' := ⟨_, _, hend, ιb, _, rfl, by rw [VR, hbb], stAll, satg⟩
                  subst hj
                  cases e with
                  | normal => exact key
                  | ret => exact key
                  | exit id => exact key
                split at h
                · rename_i hj
                  split at h
                  · rename_i gg hw2
                    cases h
                    exact fin 0 0 true hj rfl hw2 rfl rfl rfl
                  · cases h
                · rename_i j hj
                  split at h
                  · rename_i gg hw2
                    cases h
                    exact fin (j + 1) 2 false hj rfl hw2 rfl (by cases j <;> rfl) (by cases j <;> rfl)
                  · cases h
              · cases h
            · cases h
          · cases h
        · cases h
      · cases h
    · cases h
  · cases h
/-- What stands for a function's own text does what the text does. -/
def PrimOK (P : Program) (pr : FuncId → Option (List AV → G → Option (AV × G))) : Prop :=
  ∀ f p args g av g', pr f = some p → p args g = some (av, g') → Mono g g' ∧ ∀ N F w0 ι w (vs : List Value), g'.n ≤ N → FOK F g' → Sat N F g ι w0 w → g.thr ≤ g.n → VRL ι args vs → Ran P ι w vs (Post N F w0 av g g' ι w) (.fn f)
theorem evFn_ok {pr : FuncId → Option (List AV → G → Option (AV × G))} {nd : FuncId → Option Bool} (hpr : PrimOK P pr) (hng : noNumG P = true) (hm : P.follows .mixedOrders = true) (lf : Nat) : ∀ d, CallOK P (evFn P pr nd lf d)
  | 0, c, args, g, av, g', h => by simp [evFn] at h
  | d + 1, .yl k, args, g, av, g', h => by
    simp only [evFn] at h
    exact round_ok hng hm (evFn_ok hpr hng hm lf d) h
  | d + 1, .fn f, args, g, av, g', h => by
    simp only [evFn] at h
    split at h
    · rename_i r hp
      cases h
      cases hpf : pr f with
      | none => rw [hpf] at hp; simp [tryP] at hp
      | some p => rw [hpf] at hp; exact hpr f p args g av g' hpf hp
    split at h
    · cases h
    · rename_i fn hf
      split at h
      · cases h
      · rename_i body hb
        split at h
        · rename_i tm hn hargs
          have hn' := Nat.le_of_ble_eq_true hn
          have key : ∀ e tm1 mk1 g1 g2 xs, evTop P (evFn P pr nd lf d) fn.ntmps lf (nd f) body tm [] g = some (e, tm1, mk1, g1) → e = .normal ∨ e = .ret → evMarks mk1 g1 = some g2 → resA P tm1 g2 fn.results.toList = some (xs, g') → av = resOne xs →
              Mono g g' ∧ ∀ N F w0 ι w (vs : List Value), g'.n ≤ N → FOK F g' → Sat N F g ι w0 w → g.thr ≤ g.n → VRL ι args vs → Ran P ι w vs (Post N F w0 av g g' ι w) (.fn f) := by
            intro e tm1 mk1 g1 g2 xs hev he hmk hres hav
            subst hav
            obtain ⟨m1, h1⟩ := top_ok (Nt := fn.ntmps) hng hm (evFn_ok hpr hng hm lf d) lf (nd f) body _ _ _ _ _ _ _ hev
            have m2 := (res_ok (P := P) (Nt := fn.ntmps) (ds := []) (a := ⟨#[], []⟩) _ hres).1
            have m3 := (marks_ok (P := P) (fn := fn) (tmps := #[]) (R := fun _ _ => True) _ hmk).1
            refine ⟨(m1.tr m3).tr m2, fun N F w0 ι w vs hN hF hs hthr hv => ?_⟩
            have F2 := m2.fok hF
            have F1 := m3.fok F2
            refine callsIn_of_wp_marks (F := Fence.wide) hf hb trivial ?_
            refine h1 N F w0 ι [] _ w _ (Nat.le_trans m3.n (Nat.le_trans m2.n hN)) F1 (args_TR hargs hv hn') rfl hs hthr fun ι' ds' a' w' ht' hk' st sat => ?_
            have fin : LeavesInM Fence.wide 0 P fn a'.tmps (Post N F w0 (resOne xs) g g' ι w) ds' .returning w' := by
              refine (marks_ok (P := P) (fn := fn) _ hmk).2 N F w0 ι' ds' w' F2 hk' sat fun w2 st2 sat2 => ?_
              obtain ⟨us, hr, hu, st3, sat3⟩ := (res_ok (P := P) (Nt := fn.ntmps) (ds := ds') (a := a') _ hres).2 N F w0 ι' w2 hF ht' sat2
              exact ⟨_, results_run (fn := fn) hr, ι', _, rfl, resOne_VR hu, (st.trans st2).trans st3, sat3⟩
            rw [← ht'.defers] at fin
            rcases he with rfl | rfl
            · exact fin
            · exact fin
          split at h
          · rename_i tm1 mk1 g1 hev
            split at h
            · rename_i g2 hmk
              split at h
              · rename_i xs g3 hres
                cases h
                exact key _ _ _ _ _ _ hev (.inl rfl) hmk hres rfl
              · cases h
            · cases h
          · rename_i tm1 mk1 g1 hev
            split at h
            · rename_i g2 hmk
              split at h
              · rename_i xs g3 hres
                cases h
                exact key _ _ _ _ _ _ hev (.inr rfl) hmk hres rfl
              · cases h
            · cases h
          · cases h
        · cases h
/-- **A closed call that the evaluator finds true returns true, and leaves what stood.** -/
theorem isTrue_ok {pr : FuncId → Option (List AV → G → Option (AV × G))} {nd : FuncId → Option Bool} (hpr : PrimOK P pr) (hng : noNumG P = true) (hm : P.follows .mixedOrders = true) {lf d : Nat} {f : FuncId} (h : isTrue P pr nd lf d f = true) (w : World) : Calls P f #[] w fun e w' => e = .returned (.bool true) ∧ Below w.heap.size w w' := by
  unfold isTrue at h
  split at h
  · rename_i g' hev
    have hs : Sat g'.n (fun _ => True) g0 (fun _ => .un) w w :=
      ⟨(fun k k' b m m' hk => by cases hk), (fun k b m hk => by cases hk), fun k _ _ => rfl, (fun k l hl => by cases hl), (fun k l _ hl => by cases hl), Below.refl _ _⟩
    have := (evFn_ok hpr hng hm lf d _ _ _ _ _ hev).2 g'.n (fun _ => True) w _ w [] (Nat.le_refl _) ⟨fun _ _ => trivial, fun _ _ => trivial, fun _ _ => trivial⟩ hs (Nat.le_refl _) (by rw [VRL])
    have hc : Calls P f #[] w _ := callsIn_wide.1 (show CallsIn Fence.wide 0 P f #[] w _ from this)
    refine hc.mono ?_
    rintro e w' ⟨ι', v, rfl, hv, st, sat⟩
    rw [VR] at hv
    subst hv
    exact ⟨rfl, sat.bel⟩
  · cases h
end
end Go.Proofs.YtjblkeofjkdpbaaGreatDoor.Eng
