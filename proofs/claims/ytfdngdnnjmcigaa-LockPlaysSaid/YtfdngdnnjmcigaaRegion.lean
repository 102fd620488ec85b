/- A region that draws its order, walked once: each operation is shown to leave a fact about its own value that lasts, from the facts of those it waits for alone; then whatever order is drawn, all facts hold behind the region. Conditions: the Bool okB of the region's operations. -/
import Derived.Test.YtfdngdnnjmcigaaGen
import Derived.Orders
namespace Go.Proofs.Ytfdngdnnjmcigaa
open Go.RowKit
set_option linter.unusedVariables false
set_option linter.unusedSimpArgs false

/-- An edge that binds whatever the mode. -/
def bindsB (e : Edge) : Bool := Region.binds .any e
def waits (o : Oper) (j : Nat) : Bool := o.after.toList.any fun e => bindsB e && e.on == j
/-- Each operation waits for earlier ones alone; each writes a temporary of its own, that is there. -/
def okB (n : Nat) (ops : List Oper) : Bool :=
  (ops.zipIdx.all fun (o, i) => (o.after.toList.all fun e => !bindsB e || decide (e.on < i)) && (match o.dst with | some d => decide (d < n) | none => true)) &&
  (ops.zipIdx.all fun (o, i) => match o.dst with | none => true | some d => ops.zipIdx.all fun (p, j) => i == j || p.dst != some d)
def opVal (a : Act) (o : Oper) : Value := match o.dst with | some d => a.tmps.getD d undef | none => undef
/-- No operation writes temporary t but such as wait for operation i. -/
def freeB (ops : List Oper) (i t : Nat) : Bool := ops.all fun p => p.dst != some t || waits p i
abbrev Fact := Value → World → Prop
/-- What an operation leaves: a value, or nothing, or what its callee leaves. -/
def OpUp (P : Program) (K : Fact) : Result Next → Prop
  | .ok (.value v) w => K v w
  | .ok .skip w => K undef w
  | .ok (.enter f args) w => Calls P f args w fun e w' => ∃ v, e = .returned v ∧ K v w'
  | _ => False
section
variable (P : Program) (K : Fact) (w : World)
theorem OpUp_value (v : Value) : OpUp P K (.ok (.value v) w) = K v w := rfl
theorem OpUp_skip : OpUp P K (.ok .skip w) = K undef w := rfl
theorem OpUp_enter (f : FuncId) (args : Array Value) : OpUp P K (.ok (.enter f args) w) = Calls P f args w fun e w' => ∃ v, e = .returned v ∧ K v w' := rfl
end
/-- The values of all operations, put into their temporaries one behind the other. -/
def putAll (a : Act) : List Oper → List Value → Act
  | o :: os, v :: vs => putAll (a.put o.dst v) os vs
  | _, _ => a
/-- All facts hold. -/
def Holds : List Fact → List Value → World → Prop
  | f :: fs, v :: vs, w => f v w ∧ Holds fs vs w
  | [], [], _ => True
  | _, _, _ => False

section
variable {ops : List Oper}
theorem opVal_put {a : Act} {o : Oper} {v : Value} (h : ∀ d, o.dst = some d → d < a.tmps.size) (hv : o.dst = none → v = undef) : opVal (a.put o.dst v) o = v := by
  unfold opVal Act.put
  cases hd : o.dst with
  | none => simp [hv hd]
  | some d => simp [h d hd]
theorem opVal_put_ne {a : Act} {o p : Oper} {v : Value} (h : ∀ d, o.dst = some d → p.dst ≠ some d) : opVal (a.put o.dst v) p = opVal a p := by
  unfold opVal Act.put
  cases hd : o.dst with
  | none => rfl
  | some d =>
    cases hp : p.dst with
    | none => rfl
    | some e =>
      have : d ≠ e := fun he => h d hd (by rw [hp, he])
      simp [Array.getElem?_setIfInBounds, this]
theorem getD_put_ne {a : Act} {o : Oper} {v : Value} {t : Nat} (h : o.dst ≠ some t) : (a.put o.dst v).tmps.getD t undef = a.tmps.getD t undef := by
  unfold Act.put
  cases hd : o.dst with
  | none => rfl
  | some d =>
    have : d ≠ t := fun he => h (by rw [hd, he])
    simp [Array.getElem?_setIfInBounds, this]
theorem size_put {a : Act} {o : Oper} {v : Value} : (a.put o.dst v).tmps.size = a.tmps.size := by
  unfold Act.put
  cases o.dst <;> simp
theorem defers_put {a : Act} {o : Oper} {v : Value} : (a.put o.dst v).defers = a.defers := by
  unfold Act.put
  cases o.dst <;> rfl
theorem put_none_undef {a : Act} {o : Oper} {v : Value} (h : o.dst = none) : a.put o.dst v = a.put o.dst undef := by
  unfold Act.put; rw [h]

theorem okB_before {n : Nat} (h : okB n ops = true) {i : Nat} {o : Oper} (ho : ops[i]? = some o) {e : Edge} (he : e ∈ o.after) (hb : Region.binds .any e = true) : e.on < i := by
  simp only [okB, Bool.and_eq_true, List.all_eq_true] at h
  have h1 := (h.1 (o, i) (List.mem_zipIdx_iff_getElem?.2 (by simpa using ho))).1
  simp only [List.all_eq_true, Array.mem_toList_iff] at h1
  have h2 := h1 e he
  simpa [bindsB, hb] using h2
theorem okB_dst {n : Nat} (h : okB n ops = true) {i : Nat} {o : Oper} (ho : ops[i]? = some o) {d : Nat} (hd : o.dst = some d) : d < n := by
  simp only [okB, Bool.and_eq_true, List.all_eq_true] at h
  have h1 := (h.1 (o, i) (List.mem_zipIdx_iff_getElem?.2 (by simpa using ho))).2
  simpa [hd] using h1
theorem okB_apart {n : Nat} (h : okB n ops = true) {i j : Nat} {o p : Oper} (ho : ops[i]? = some o) (hp : ops[j]? = some p) (hne : i ≠ j) {d : Nat} (hd : o.dst = some d) : p.dst ≠ some d := by
  simp only [okB, Bool.and_eq_true, List.all_eq_true] at h
  have h1 := h.2 (o, i) (List.mem_zipIdx_iff_getElem?.2 (by simpa using ho))
  simp only [hd, List.all_eq_true] at h1
  have h2 := h1 (p, j) (List.mem_zipIdx_iff_getElem?.2 (by simpa using hp))
  simpa [hne] using h2

/-- How many have not been carried out. -/
def left_ (listed : Array Bool) (n : Nat) : Nat := (List.range n).countP fun i => !listed.getD i false
theorem left_set {listed : Array Bool} {n i : Nat} (hi : i < n) (hs : listed.size = n) (h : listed.getD i true = false) : left_ (listed.setIfInBounds i true) n + 1 = left_ listed n := by
  subst hs
  unfold left_
  have hil : listed.getD i false = false := by
    simpa [hi] using h
  have key : ∀ l : List Nat, l.Nodup → i ∈ l → (l.countP fun j => !(listed.setIfInBounds i true).getD j false) + 1 = l.countP fun j => !listed.getD j false := by
    intro l
    induction l with
    | nil => intro _ h; simp at h
    | cons x l ih =>
      intro hnd hm
      rw [List.nodup_cons] at hnd
      rw [List.countP_cons, List.countP_cons]
      by_cases hx : x = i
      · subst hx
        have e : (l.countP fun j => !(listed.setIfInBounds x true).getD j false) = l.countP fun j => !listed.getD j false := by
          apply List.countP_congr
          intro j hj
          have hne : x ≠ j := fun e => hnd.1 (by rw [e]; exact hj)
          simp [Array.getElem?_setIfInBounds, hne]
        rw [e]
        simp [hi] at hil ⊢
        simp [hil]
      · have hm' : i ∈ l := by
          rcases List.mem_cons.1 hm with h | h
          · exact absurd h.symm hx
          · exact h
        have := ih hnd.2 hm'
        have e : (listed.setIfInBounds i true).getD x false = listed.getD x false := by
          simp [Ne.symm hx]
        rw [e]
        omega
  exact key _ List.nodup_range (List.mem_range.2 hi)
theorem ready_nil {n : Nat} (hok : okB n ops = true) {listed : Array Bool} (hs : listed.size = ops.length) (h : Region.ready .any ops.toArray listed = []) :
    ∀ i o, ops[i]? = some o → listed.getD i false = true := by
  intro i
  induction i using Nat.strongRecOn with
  | ind i ih =>
    intro o ho
    by_cases hl : listed.getD i false = true
    · exact hl
    · exfalso
      have hi : i < ops.length := (List.getElem?_eq_some_iff.1 ho).1
      have hm : i ∈ Region.ready .any ops.toArray listed := mem_ready.2 ⟨by
        have : i < listed.size := by omega
        simpa [this] using hl, o, by simpa using ho, fun e he hb => by
          have hlt := okB_before hok ho he hb
          exact ih e.on hlt _ (List.getElem?_eq_getElem (show e.on < ops.length by omega))⟩
      rw [h] at hm
      cases hm
/-- What holds when the operations 'listed' have been carried out, in whatever order. -/
structure Inv (ops : List Oper) (R : World → World → Prop) (fs : List Fact) (a0 : Act) (w0 : World) (listed : Array Bool) (a : Act) (w : World) : Prop where
  rel : R w0 w
  fact : ∀ i o f, ops[i]? = some o → fs[i]? = some f → listed.getD i false = true → f (opVal a o) w
  frame : ∀ t, (∀ i o, ops[i]? = some o → listed.getD i false = true → o.dst ≠ some t) → a.tmps.getD t undef = a0.tmps.getD t undef
  size : a.tmps.size = a0.tmps.size
  defers : a.defers = a0.defers
  len : listed.size = ops.length
  closed : ∀ j p, ops[j]? = some p → listed.getD j false = true → ∀ i, waits p i = true → listed.getD i false = true
/-- What is to be shown of operation i. -/
def StepOK (P : Program) (ops : List Oper) (R : World → World → Prop) (fs : List Fact) (a0 : Act) (w0 : World) (i : Nat) (o : Oper) (f : Fact) : Prop :=
  ∀ a w, R w0 w →
    (∀ j p g, ops[j]? = some p → fs[j]? = some g → waits o j = true → g (opVal a p) w) →
    (∀ t, freeB ops i t = true → a.tmps.getD t undef = a0.tmps.getD t undef) → a.tmps.size = a0.tmps.size →
    if Region.wanted o (yielded ops.toArray a.tmps) = true then ∀ K : Fact, (∀ v w', R w w' → f v w' → K v w') → OpUp P K ((execOp a.eval o).run P w) else f undef w
def StepsOK (P : Program) (ops : List Oper) (R : World → World → Prop) (fs : List Fact) (a0 : Act) (w0 : World) : Nat → List Oper → List Fact → Prop
  | i, o :: os, f :: gs => StepOK P ops R fs a0 w0 i o f ∧ StepsOK P ops R fs a0 w0 (i + 1) os gs
  | _, [], [] => True
  | _, _, _ => False
theorem StepsOK.at_ {P : Program} {R : World → World → Prop} {fs : List Fact} {a0 : Act} {w0 : World} : ∀ {i : Nat} {os : List Oper} {gs : List Fact}, StepsOK P ops R fs a0 w0 i os gs →
    os.length = gs.length ∧ ∀ k o f, os[k]? = some o → gs[k]? = some f → StepOK P ops R fs a0 w0 (i + k) o f
  | i, o :: os, f :: gs, h => by
    obtain ⟨h1, h2⟩ := h
    obtain ⟨h3, h4⟩ := h2.at_
    refine ⟨by simp [h3], fun k o' f' ho hf => ?_⟩
    cases k with
    | zero =>
      simp at ho hf
      subst ho; subst hf
      exact h1
    | succ k =>
      simp at ho hf
      have := h4 k o' f' ho hf
      rwa [show i + 1 + k = i + (k + 1) by omega] at this
  | i, [], [], _ => ⟨rfl, fun k o f ho => by simp at ho⟩
  | i, [], _ :: _, h => h.elim
  | i, _ :: _, [], h => h.elim
theorem Act.eval_getD (a : Act) (t : Nat) : a.eval (.tmp t) = a.tmps.getD t undef := rfl
/-- The wp of an operation from what it leaves. -/
theorem wp_of_OpUp {P : Program} {o : Oper} {a : Act} {w : World} {next : Act → World → Prop} {Q : Exit → Act → World → Prop}
    (h : OpUp P (fun v w' => next (a.put o.dst v) w') ((execOp a.eval o).run P w)) : o.wp P a w next Q := by
  unfold Oper.wp
  generalize (execOp a.eval o).run P w = r at h
  cases r with
  | ok n w' =>
    cases n <;> simp only [OpUp, Oper.upon] at h ⊢ <;> first | exact h | exact h.elim | exact h.mono (fun e w'' he => by obtain ⟨v, rfl, h⟩ := he; exact h)
  | halt x w' => exact h.elim
theorem OpUp_mono {P : Program} {K K' : Fact} {r : Result Next} (h : ∀ v w, K v w → K' v w) (hh : OpUp P K r) : OpUp P K' r := by
  cases r with
  | ok n w' =>
    cases n <;> simp only [OpUp] at hh ⊢ <;> first | exact h _ _ hh | exact hh.elim | exact hh.mono (fun e w'' he => by obtain ⟨v, rfl, he⟩ := he; exact ⟨v, rfl, h _ _ he⟩)
  | halt x w' => exact hh.elim

theorem putAll_size : ∀ (l : List Oper) (vs : List Value) (a : Act), (putAll a l vs).tmps.size = a.tmps.size
  | [], _, a => by cases ‹List Value› <;> rfl
  | o :: l, [], a => rfl
  | o :: l, v :: vs, a => by
    unfold putAll
    rw [putAll_size l vs, size_put]
theorem putAll_defers : ∀ (l : List Oper) (vs : List Value) (a : Act), (putAll a l vs).defers = a.defers
  | [], _, a => by cases ‹List Value› <;> rfl
  | o :: l, [], a => rfl
  | o :: l, v :: vs, a => by
    unfold putAll
    rw [putAll_defers l vs, defers_put]
theorem putAll_get (a : Act) (t : Nat) : ∀ (l : List Oper) (a1 : Act), (∀ o ∈ l, ∀ d, o.dst = some d → d < a1.tmps.size) →
    (putAll a1 l (l.map (opVal a))).tmps.getD t undef = if (l.any fun o => o.dst == some t) = true then a.tmps.getD t undef else a1.tmps.getD t undef := by
  intro l
  induction l with
  | nil => intro a1 _; simp [putAll]
  | cons o l ih =>
    intro a1 h
    simp only [List.map_cons, putAll, List.any_cons]
    rw [ih _ (fun p hp d hd => by rw [size_put]; exact h p (List.mem_cons_of_mem _ hp) d hd)]
    by_cases h1 : (l.any fun o => o.dst == some t) = true
    · simp [h1]
    · by_cases h2 : o.dst = some t
      · simp only [h1, h2, beq_self_eq_true, Bool.true_or, if_true]
        have hs := h o (List.mem_cons_self ..) t h2
        unfold Act.put
        simp [opVal, h2, hs]
      · have : (o.dst == some t) = false := by simpa using h2
        simp only [h1, this, Bool.false_or]
        exact getD_put_ne h2
theorem putAll_self {a a0 : Act} (hsz : a.tmps.size = a0.tmps.size) (hd : a.defers = a0.defers) (hdst : ∀ o ∈ ops, ∀ d, o.dst = some d → d < a0.tmps.size)
    (hfr : ∀ t, (∀ o ∈ ops, o.dst ≠ some t) → a.tmps.getD t undef = a0.tmps.getD t undef) : putAll a0 ops (ops.map (opVal a)) = a := by
  have h1 : (putAll a0 ops (ops.map (opVal a))).tmps = a.tmps := by
    apply Array.ext
    · rw [putAll_size, hsz]
    · intro i hi hi2
      have := putAll_get a i ops a0 hdst
      have e1 : ∀ (x : Array Value) (h : i < x.size), x.getD i undef = x[i] := fun x h => by simp [h]
      rw [e1 _ hi, e1 _ hi2] at this
      rw [this]
      split
      · rfl
      · rename_i hn
        rw [← hfr i, e1 _ hi2]
        intro o ho he
        exact hn (List.any_eq_true.2 ⟨o, ho, by simp [he]⟩)
  have h2 := putAll_defers ops (ops.map (opVal a)) a0
  rw [← hd] at h2
  generalize putAll a0 ops (ops.map (opVal a)) = b at *
  cases a; cases b
  simp at h1 h2
  simp [h1, h2]
theorem holds_map {a : Act} {w : World} : ∀ {l : List Oper} {fs : List Fact}, l.length = fs.length → (∀ (i : Nat) o f, l[i]? = some o → fs[i]? = some f → f (opVal a o) w) → Holds fs (l.map (opVal a)) w
  | [], [], _, _ => trivial
  | o :: l, f :: fs, hl, h => ⟨h 0 o f rfl rfl, holds_map (by simpa using hl) fun i o' f' ho hf => h (i + 1) o' f' (by simpa using ho) (by simpa using hf)⟩
  | [], _ :: _, hl, _ => by simp at hl
  | _ :: _, [], hl, _ => by simp at hl

section
variable {P : Program} {Q : Exit → Act → World → Prop} {R : World → World → Prop} {fs : List Fact} {a0 : Act} {w0 : World}
theorem inv_put (hR : ∀ a b c, R a b → R b c → R a c) (hst : ∀ f ∈ fs, ∀ v w w', f v w → R w w' → f v w') (hok : okB a0.tmps.size ops = true)
    {i : Nat} {o : Oper} {f : Fact} (ho : ops[i]? = some o) (hf : fs[i]? = some f) {listed : Array Bool} {a : Act} {w w' : World} {v : Value} (hI : Inv ops R fs a0 w0 listed a w)
    (hall : ∀ e ∈ o.after, Region.binds .any e = true → listed.getD e.on false = true) (hw : R w w') (hv : f v w') (hn : o.dst = none → v = undef) :
    Inv ops R fs a0 w0 (listed.setIfInBounds i true) (a.put o.dst v) w' where
  rel := hR _ _ _ hI.rel hw
  fact := fun j p g hp hg hl => by
    by_cases hij : i = j
    · subst hij
      rw [ho] at hp; rw [hf] at hg
      cases hp; cases hg
      rwa [opVal_put (fun d hd => by rw [hI.size]; exact okB_dst hok ho hd) hn]
    · rw [opVal_put_ne (fun d hd => okB_apart hok ho hp hij hd)]
      have hl' : listed.getD j false = true := by
        simpa [Array.getElem?_setIfInBounds, hij] using hl
      exact hst g (List.mem_of_getElem? hg) _ _ _ (hI.fact j p g hp hg hl') hw
  frame := fun t ht => by
    have hil : i < listed.size := by
      have := (List.getElem?_eq_some_iff.1 ho).1
      rw [hI.len]; exact this
    have h1 : o.dst ≠ some t := ht i o ho (by simp [hil])
    rw [getD_put_ne h1]
    refine hI.frame t fun j p hp hl => ht j p hp ?_
    by_cases hij : i = j
    · subst hij; simp [hil]
    · simpa [Array.getElem?_setIfInBounds, hij] using hl
  size := by rw [size_put, hI.size]
  defers := by rw [defers_put, hI.defers]
  len := by simp [hI.len]
  closed := fun j p hp hl k hk => by
    have mono : listed.getD k false = true → (listed.setIfInBounds i true).getD k false = true := fun h => by
      by_cases hik : i = k
      · subst hik
        have hil : i < listed.size := by
          have := (List.getElem?_eq_some_iff.1 ho).1
          rw [hI.len]; exact this
        simp [hil]
      · simpa [Array.getElem?_setIfInBounds, hik] using h
    by_cases hij : i = j
    · subst hij
      rw [ho] at hp; cases hp
      obtain ⟨e, he, hb⟩ := List.any_eq_true.1 hk
      rw [Array.mem_toList_iff] at he
      simp only [Bool.and_eq_true, bindsB, beq_iff_eq] at hb
      have h1 := hall e he hb.1
      rw [hb.2] at h1
      exact mono h1
    · have hl' : listed.getD j false = true := by
        simpa [Array.getElem?_setIfInBounds, hij] using hl
      exact mono (hI.closed j p hp hl' k hk)
theorem wpAny_inv (hR : ∀ a b c, R a b → R b c → R a c) (hRr : ∀ a, R a a) (hst : ∀ f ∈ fs, ∀ v w w', f v w → R w w' → f v w') (hok : okB a0.tmps.size ops = true)
    (hnone : ∀ (i : Nat) o f, ops[i]? = some o → fs[i]? = some f → o.dst = none → ∀ v w, f v w → f undef w)
    (hstep : StepsOK P ops R fs a0 w0 0 ops fs)
    (hend : ∀ vs w, R w0 w → Holds fs vs w → Q .normal (putAll a0 ops vs) w) :
    ∀ (fuel : Nat) (listed : Array Bool) (a : Act) (w : World), left_ listed ops.length ≤ fuel → Inv ops R fs a0 w0 listed a w → wpAny P .any ops.toArray Q fuel listed a w := by
  obtain ⟨hlen, hstep⟩ := hstep.at_
  have fin : ∀ listed a w, Inv ops R fs a0 w0 listed a w → Region.ready .any ops.toArray listed = [] → Q .normal a w := fun listed a w hI hr => by
    have hall := ready_nil hok hI.len hr
    have h := hend (ops.map (opVal a)) w hI.rel (holds_map hlen fun i o f ho hf => hI.fact i o f ho hf (hall i o ho))
    rwa [putAll_self hI.size hI.defers (fun o ho d hd => by
      obtain ⟨i, hi⟩ := List.getElem?_of_mem ho
      exact okB_dst hok hi hd) (fun t ht => hI.frame t fun i o ho _ => ht o (List.mem_of_getElem? ho))] at h
  intro fuel
  induction fuel with
  | zero =>
    intro listed a w hf hI
    have hr : Region.ready .any ops.toArray listed = [] := by
      apply List.eq_nil_iff_forall_not_mem.2
      intro i hi
      obtain ⟨h1, o, ho, _⟩ := mem_ready.1 hi
      have hi' : i < ops.length := by
        have := (Array.getElem?_eq_some_iff.1 ho).1
        simpa using this
      have := left_set hi' hI.len h1
      omega
    exact ⟨hr, fin listed a w hI hr⟩
  | succ fuel ih =>
    intro listed a w hfu hI
    refine ⟨fin listed a w hI, fun i hi => ?_⟩
    obtain ⟨hun, o, ho', hall⟩ := mem_ready.1 hi
    have ho : ops[i]? = some o := by simpa using ho'
    have hil : i < ops.length := (List.getElem?_eq_some_iff.1 ho).1
    have hun' : listed.getD i false = false := by
      have : i < listed.size := by rw [hI.len]; exact hil
      simpa [this] using hun
    obtain ⟨f, hf⟩ : ∃ f, fs[i]? = some f := ⟨_, List.getElem?_eq_getElem (show i < fs.length by omega)⟩
    have hS := hstep i o f ho hf
    rw [Nat.zero_add] at hS
    have hS := hS a w hI.rel
      (fun j p g hp hg hw => by
        obtain ⟨e, he, hb⟩ := List.any_eq_true.1 hw
        rw [Array.mem_toList_iff] at he
        simp only [Bool.and_eq_true, bindsB, beq_iff_eq] at hb
        have h1 := hall e he hb.1
        rw [hb.2] at h1
        exact hI.fact j p g hp hg h1)
      (fun t ht => hI.frame t fun j p hp hl he => by
        have h1 := List.all_eq_true.1 ht p (List.mem_of_getElem? hp)
        simp only [he, bne_self_eq_false, Bool.false_or] at h1
        have := hI.closed j p hp hl i h1
        rw [hun'] at this
        cases this) hI.size
    have hleft := left_set hil hI.len hun
    have go : ∀ v w', R w w' → f v w' → wpAny P .any ops.toArray Q fuel (listed.setIfInBounds i true) (a.put o.dst v) w' := fun v w' hw hv => by
      by_cases hd : o.dst = none
      · rw [put_none_undef hd]
        exact ih _ _ _ (by omega) (inv_put hR hst hok ho hf hI hall hw (hnone i o f ho hf hd _ _ hv) (fun _ => rfl))
      · exact ih _ _ _ (by omega) (inv_put hR hst hok ho hf hI hall hw hv (fun h => absurd h hd))
    unfold wpOp
    rw [ho']
    dsimp only
    split
    · rename_i hw
      rw [if_pos hw] at hS
      exact .inl (wp_of_OpUp (hS _ go))
    · rename_i hw
      rw [if_neg hw] at hS
      exact go _ _ (hRr _) hS
/-- **The region**: facts for all operations, each from those that it waits for. -/
theorem wp_region_inv {id : Nat} {w : World} (R : World → World → Prop) (fs : List Fact) (hm : P.follows .mixedOrders = true) (hR : ∀ a b c, R a b → R b c → R a c) (hRr : ∀ a, R a a)
    (hst : ∀ f ∈ fs, ∀ v w w', f v w → R w w' → f v w') (hok : okB a0.tmps.size ops = true)
    (hnone : ∀ (i : Nat) o f, ops[i]? = some o → fs[i]? = some f → o.dst = none → ∀ v w, f v w → f undef w)
    (hstep : StepsOK P ops R fs a0 w.drew 0 ops fs)
    (hend : ∀ vs w', R w.drew w' → Holds fs vs w' → Q .normal (putAll a0 ops vs) w') : (Code.region id ops.toArray true).wp P Q a0 w := by
  refine wp_region_any hm (wpAny_inv (w0 := w.drew) hR hRr hst hok hnone hstep hend _ _ _ _ ?_ ⟨hRr _, ?_, fun t _ => rfl, rfl, rfl, by simp, ?_⟩)
  · simp [left_]
    exact Nat.le_trans List.countP_le_length (by simp)
  · intro i o f ho hf hl
    by_cases h : i < ops.length <;> simp [h] at hl
  · intro j p hp hl
    by_cases h : j < ops.length <;> simp [h] at hl
end
end
/-! ### What the printed steps use -/
abbrev Eqs (c : Value) : Fact := fun v _ => v = c
abbrev Any_ : Fact := fun _ _ => True
/-- Everything that stood is as it was. -/
def Stood (a b : World) : Prop := Below a.heap.size a b
theorem Stood.refl (a : World) : Stood a a := Below.refl _ _
theorem Stood.trans (a b c : World) (h : Stood a b) (k : Stood b c) : Stood a c := Below.trans h (Below.mono k h.size)
def Stab (R : World → World → Prop) (f : Fact) : Prop := ∀ v w w', f v w → R w w' → f v w'
theorem stab_eq {R : World → World → Prop} (c : Value) : Stab R (Eqs c) := fun _ _ _ h _ => h
theorem stab_any {R : World → World → Prop} : Stab R Any_ := fun _ _ _ h _ => h
theorem stab_nil {R : World → World → Prop} : ∀ f ∈ ([] : List Fact), ∀ v w w', f v w → R w w' → f v w' := fun f h => by cases h
theorem stab_cons {R : World → World → Prop} {f : Fact} {fs : List Fact} (h : Stab R f) (hs : ∀ f ∈ fs, ∀ v w w', f v w → R w w' → f v w') : ∀ g ∈ f :: fs, ∀ v w w', g v w → R w w' → g v w' := fun g hg => by
  rcases List.mem_cons.1 hg with rfl | hg
  · exact h
  · exact hs g hg
theorem none_free {ops : List Oper} {fs : List Fact} (h : (ops.all fun o => o.dst.isSome) = true) : ∀ (i : Nat) o f, ops[i]? = some o → fs[i]? = some f → o.dst = none → ∀ v w, f v w → f undef w := fun i o f ho _ hd => by
  have := List.all_eq_true.1 h o (List.mem_of_getElem? ho)
  rw [hd] at this
  cases this
theorem Holds.cons {f : Fact} {fs : List Fact} {vs : List Value} {w : World} (h : Holds (f :: fs) vs w) : ∃ v vs', vs = v :: vs' ∧ f v w ∧ Holds fs vs' w := by
  cases vs with
  | nil => exact h.elim
  | cons v vs => exact ⟨v, vs, rfl, h.1, h.2⟩
theorem Holds.eq_ {c : Value} {fs : List Fact} {vs : List Value} {w : World} (h : Holds (Eqs c :: fs) vs w) : ∃ vs', vs = c :: vs' ∧ Holds fs vs' w := by
  obtain ⟨v, vs', e, hv, h⟩ := h.cons
  exact ⟨vs', by rw [e, show v = c from hv], h⟩
theorem Holds.nil {vs : List Value} {w : World} (h : Holds [] vs w) : vs = [] := by
  cases vs with
  | nil => rfl
  | cons v vs => exact h.elim
theorem Stood.below {w cur w1 : World} (h : Below w.heap.size w cur) (k : Stood cur.drew w1) : Below w.heap.size w w1 :=
  h.drew.trans (Below.mono k (show w.heap.size ≤ cur.drew.heap.size from h.size))
theorem Stood.cur {cur w1 : World} (k : Stood cur.drew w1) : Below cur.heap.size cur w1 := (Below.refl _ _ : Below cur.heap.size cur cur).drew.trans k
theorem StepsOK.cons {P : Program} {ops : List Oper} {R : World → World → Prop} {fs : List Fact} {a0 : Act} {w0 : World} {i : Nat} {o : Oper} {os : List Oper} {f : Fact} {gs : List Fact}
    (h : StepOK P ops R fs a0 w0 i o f) (hs : StepsOK P ops R fs a0 w0 (i + 1) os gs) : StepsOK P ops R fs a0 w0 i (o :: os) (f :: gs) := ⟨h, hs⟩
theorem StepsOK.nil {P : Program} {ops : List Oper} {R : World → World → Prop} {fs : List Fact} {a0 : Act} {w0 : World} {i : Nat} : StepsOK P ops R fs a0 w0 i [] [] := trivial
theorem wp_region_inv' {P : Program} {ops : List Oper} {Q : Exit → Act → World → Prop} {a0 : Act} {id : Nat} {w : World} (n : Nat) (fs : List Fact) (hm : P.follows .mixedOrders = true) (hn : a0.tmps.size = n)
    (hst : ∀ f ∈ fs, ∀ v w w', f v w → Stood w w' → f v w') (hok : okB n ops = true) (hnone : (ops.all fun o => o.dst.isSome) = true)
    (hstep : StepsOK P ops Stood fs a0 w.drew 0 ops fs)
    (hend : ∀ vs w', Stood w.drew w' → Holds fs vs w' → Q .normal (putAll a0 ops vs) w') : (Code.region id ops.toArray true).wp P Q a0 w :=
  wp_region_inv Stood fs hm Stood.trans Stood.refl hst (by rw [hn]; exact hok) (none_free hnone) hstep hend
/-- A slice whose cells read as these bytes (these words). -/
def RdYs (xs : List (BitVec 8)) : Fact := fun v w => ∃ (B : Option Addr) (d : Nat), v = .slice B xs.length d ∧ RdF Y w B xs ∧ xs.length ≤ maxLen
def RdUs (xs : List (BitVec 64)) : Fact := fun v w => ∃ (B : Option Addr) (d : Nat), v = .slice B xs.length d ∧ RdU w B xs ∧ xs.length ≤ maxLen
theorem stab_rdY {xs : List (BitVec 8)} : Stab Stood (RdYs xs) := fun v w w' ⟨B, d, e, hr, hl⟩ h => ⟨B, d, e, hr.below h, hl⟩
theorem stab_rdU {xs : List (BitVec 64)} : Stab Stood (RdUs xs) := fun v w w' ⟨B, d, e, hr, hl⟩ h => ⟨B, d, e, hr.below h, hl⟩
theorem eval_rest (a : Act) : (∀ v, a.eval (.const v) = v) ∧ (∀ f, a.eval (.func f) = .func (.func f) #[] #[]) ∧ (∀ g, a.eval (.global g) = .pointer (some ⟨g, 0, none⟩)) := ⟨fun _ => rfl, fun _ => rfl, fun _ => rfl⟩
theorem wanted_guard {ops : List Oper} {a : Act} {o p : Oper} {g d : Nat} {b c : Bool} (ho : o.guard = some (g, b)) (hp : ops[g]? = some p) (hd : p.dst = some d) (hv : a.eval (.tmp d) = .bool c) :
    Region.wanted o (yielded ops.toArray a.tmps) = (c == b) := by
  rw [Act.eval_getD] at hv
  have h1 : a.tmps[d]? = some (.bool c) := by
    rw [Array.getD_eq_getD_getElem?] at hv
    cases h : a.tmps[d]? with
    | none => rw [h] at hv; cases hv
    | some v => rw [h] at hv; simp at hv; rw [hv]
  have h2 : ops.toArray[g]? = some p := by simpa using hp
  simp only [Region.wanted, ho, yielded, h2, Option.bind_some, hd, h1]
  cases b <;> cases c <;> rfl
end Go.Proofs.Ytfdngdnnjmcigaa
