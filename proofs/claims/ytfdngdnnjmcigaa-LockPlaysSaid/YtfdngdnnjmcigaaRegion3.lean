/- A region that draws its order, with operations in it that change what stood, and with a tail that waits for all: the world's state is told of by J, a law of which operations have been carried out. Conditions: the Bool okB of the operations; the tail's waiting. -/
import Derived.Test.YtfdngdnnjmcigaaRegion2
namespace Go.Proofs.Ytfdngdnnjmcigaa
open Go.RowKit
set_option linter.unusedVariables false
set_option linter.unusedSimpArgs false
section
variable {P : Program} {Q : Exit → Act → World → Prop} {fs : List Fact} {a0 : Act} {w0 : World} {ops init : List Oper} {z : Oper} {zs : List Oper}
/-- Each waits for the one ahead of it. -/
def chainB : Nat → List Oper → Bool
  | n, _ :: z2 :: zs => waits z2 n && chainB (n + 1) (z2 :: zs)
  | _, _ => true
theorem chain_at : ∀ {tail : List Oper} {n : Nat}, chainB n tail = true → ∀ k o, tail[k + 1]? = some o → waits o (n + k) = true
  | [], _, _, k, o, h => by simp at h
  | [_], _, _, k, o, h => by simp at h
  | z :: z2 :: zs, n, hc, k, o, h => by
    unfold chainB at hc
    rw [Bool.and_eq_true] at hc
    cases k with
    | zero => simp at h; subst h; exact hc.1
    | succ k =>
      have := chain_at hc.2 k o (by simpa using h)
      rwa [show n + 1 + k = n + (k + 1) by omega] at this
theorem tail_run {n : Nat} (hok : okB n ops = true) : ∀ (tail pre : List Oper) (fuel : Nat) (listed : Array Bool) (a : Act) (w : World), ops = pre ++ tail → chainB pre.length tail = true → listed.size = ops.length →
    (∀ j, j < pre.length → listed.getD j false = true) → (∀ j, pre.length ≤ j → listed.getD j false = false) → left_ listed ops.length ≤ fuel → wpList P ops.toArray Q tail a w → wpAny P .any ops.toArray Q fuel listed a w := by
  intro tail
  induction tail with
  | nil =>
    intro pre fuel listed a w ho hc hl h1 h2 hf h
    unfold wpList at h
    refine wpAny_all (by simpa using hl) (fun j hj => h1 j ?_) h fuel
    have := hj
    rw [ho] at this
    simpa using this
  | cons z tl ih =>
    intro pre fuel listed a w ho hc hl h1 h2 hf h
    have hz : ops[pre.length]? = some z := by rw [ho]; simp
    have hne : Region.ready .any ops.toArray listed ≠ [] := fun hr => by
      have := ready_nil hok hl hr _ z hz
      rw [h2 _ (Nat.le_refl _)] at this
      cases this
    cases fuel with
    | zero =>
      exfalso
      refine hne (List.eq_nil_iff_forall_not_mem.2 fun i hi => ?_)
      obtain ⟨g1, o, go, _⟩ := mem_ready.1 hi
      have hi' : i < ops.length := by
        have := (Array.getElem?_eq_some_iff.1 go).1
        simpa using this
      have := left_set hi' hl g1
      omega
    | succ fuel =>
      refine ⟨fun hr => absurd hr hne, fun i hi => ?_⟩
      obtain ⟨hun, o, ho', hall⟩ := mem_ready.1 hi
      have hoi : ops[i]? = some o := by simpa using ho'
      have hil : i < ops.length := (List.getElem?_eq_some_iff.1 hoi).1
      have hun' : listed.getD i false = false := by
        have : i < listed.size := by omega
        simpa [this] using hun
      have hge : pre.length ≤ i := by
        by_cases hlt : i < pre.length
        · have := h1 i hlt
          rw [hun'] at this
          cases this
        · omega
      obtain rfl : i = pre.length := by
        by_cases he : i = pre.length
        · exact he
        · exfalso
          have hw := chain_at hc (i - pre.length - 1) o (by
            rw [ho, List.getElem?_append_right hge] at hoi
            rw [show i - pre.length - 1 + 1 = i - pre.length by omega]
            exact hoi)
          obtain ⟨e, hem, hb⟩ := List.any_eq_true.1 hw
          rw [Array.mem_toList_iff] at hem
          simp only [Bool.and_eq_true, bindsB, beq_iff_eq] at hb
          have g := hall e hem hb.1
          rw [hb.2, h2 _ (by omega)] at g
          cases g
      obtain rfl : z = o := by rw [hz] at hoi; cases hoi; rfl
      have hleft := left_set hil hl hun
      have hQ : ∀ a' w', wpList P ops.toArray Q tl a' w' → wpAny P .any ops.toArray Q fuel (listed.setIfInBounds pre.length true) a' w' := fun a' w' hq => by
        refine ih (pre ++ [z]) fuel _ a' w' (by rw [ho]; simp) ?_ (by simp [hl]) (fun j hj => ?_) (fun j hj => ?_) (by omega) hq
        · rw [List.length_append]
          cases tl with
          | nil => rfl
          | cons z2 zs =>
            unfold chainB at hc
            rw [Bool.and_eq_true] at hc
            exact hc.2
        · have hj' : j < pre.length + 1 := by simpa using hj
          by_cases hj2 : pre.length = j
          · subst hj2
            have : pre.length < listed.size := by omega
            simp [this]
          · have := h1 j (by omega)
            simpa [Array.getElem?_setIfInBounds, hj2] using this
        · have hj' : pre.length + 1 ≤ j := by simpa using hj
          have := h2 j (by omega)
          have hj2 : pre.length ≠ j := by omega
          simpa [Array.getElem?_setIfInBounds, hj2] using this
      unfold wpOp
      rw [ho']
      dsimp only
      unfold wpList at h
      split at h
      · rename_i hw
        rw [if_pos hw]
        rcases h with h | h
        · exact .inl (Oper.wp_mono (fun a' w' hq => hQ a' w' hq) h)
        · exact .inr h
      · rename_i hw
        rw [if_neg hw]
        exact hQ _ _ h
def StepJ (P : Program) (ops : List Oper) (R : World → World → Prop) (J : Array Bool → World → Prop) (fs : List Fact) (a0 : Act) (i : Nat) (o : Oper) (f : Fact) : Prop :=
  ∀ listed a w, J listed w → i < listed.size → listed.getD i false = false → (∀ j, waits o j = true → listed.getD j false = true) → (∀ j p, ops[j]? = some p → waits p i = true → listed.getD j false = false) →
    (∀ j p g, ops[j]? = some p → fs[j]? = some g → waits o j = true → g (opVal a p) w) →
    (∀ t, freeB ops i t = true → a.tmps.getD t undef = a0.tmps.getD t undef) → a.tmps.size = a0.tmps.size →
    if Region.wanted o (yielded ops.toArray a.tmps) = true then ∀ K : Fact, (∀ v w', J (listed.setIfInBounds i true) w' → R w w' → f v w' → K v w') → OpUp P K ((execOp a.eval o).run P w) else (J (listed.setIfInBounds i true) w ∧ f undef w)
def StepsJ (P : Program) (ops : List Oper) (R : World → World → Prop) (J : Array Bool → World → Prop) (fs : List Fact) (a0 : Act) : Nat → List Oper → List Fact → Prop
  | i, o :: os, f :: gs => StepJ P ops R J fs a0 i o f ∧ StepsJ P ops R J fs a0 (i + 1) os gs
  | _, [], [] => True
  | _, _, _ => False
theorem StepsJ.at_ {R : World → World → Prop} {J : Array Bool → World → Prop} : ∀ {i : Nat} {os : List Oper} {gs : List Fact}, StepsJ P ops R J fs a0 i os gs →
    os.length = gs.length ∧ ∀ k o f, os[k]? = some o → gs[k]? = some f → StepJ P ops R J fs a0 (i + k) o f
  | i, o :: os, f :: gs, h => by
    obtain ⟨h1, h2⟩ := h
    obtain ⟨h3, h4⟩ := h2.at_
    refine ⟨by simp [h3], fun k o' f' ho hf => ?_⟩
    cases k with
    | zero =>
      simp at ho hf
      subst ho; subst hf
      exact h1
    | succ k =>
      simp at ho hf
      have := h4 k o' f' ho hf
      rwa [show i + 1 + k = i + (k + 1) by omega] at this
  | i, [], [], _ => ⟨rfl, fun k o f ho => by simp at ho⟩
  | i, [], _ :: _, h => h.elim
  | i, _ :: _, [], h => h.elim
theorem getD_set_ne {l : Array Bool} {i j : Nat} (h : i ≠ j) : (l.setIfInBounds i true).getD j false = l.getD j false := by
  simp [Array.getElem?_setIfInBounds, h]
theorem getD_set_eq {l : Array Bool} {i : Nat} (h : i < l.size) : (l.setIfInBounds i true).getD i false = true := by
  simp [h]
theorem wpAny_j {R : World → World → Prop} (hR : ∀ a b c, R a b → R b c → R a c) (hRr : ∀ a, R a a) {J : Array Bool → World → Prop} (hst : ∀ f ∈ fs, ∀ v w w', f v w → R w w' → f v w') (hok : okB a0.tmps.size (init ++ z :: zs) = true)
    (hsome : (init.all fun o => o.dst.isSome) = true) (hz : allWait init z = true) (hch : chainB init.length (z :: zs) = true)
    (hstep : StepsJ P (init ++ z :: zs) R J fs a0 0 init fs)
    (hend : ∀ vs w listed, J listed w → (∀ j, j < init.length → listed.getD j false = true) → (∀ j, init.length ≤ j → listed.getD j false = false) → Holds fs vs w → wpList P (init ++ z :: zs).toArray Q (z :: zs) (putAll a0 init vs) w) :
    ∀ (fuel : Nat) (listed : Array Bool) (a : Act) (w : World), left_ listed (init ++ z :: zs).length ≤ fuel → Inv (init ++ z :: zs) R fs a0 w0 listed a w → J listed w → (∀ j, init.length ≤ j → listed.getD j false = false) → wpAny P .any (init ++ z :: zs).toArray Q fuel listed a w := by
  obtain ⟨hlen, hstep⟩ := hstep.at_
  have hlast : (init ++ z :: zs)[init.length]? = some z := by simp
  have hnr : ∀ listed a w, Inv (init ++ z :: zs) R fs a0 w0 listed a w → listed.getD init.length false = false → Region.ready .any (init ++ z :: zs).toArray listed = [] → False := fun listed a w hI hm hr => by
    have := ready_nil hok hI.len hr init.length z hlast
    rw [hm] at this
    cases this
  have hin : ∀ i o, init[i]? = some o → (init ++ z :: zs)[i]? = some o ∧ i < init.length := fun i o h => by
    have hi := (List.getElem?_eq_some_iff.1 h).1
    exact ⟨by rw [List.getElem?_append_left hi]; exact h, hi⟩
  intro fuel
  induction fuel with
  | zero =>
    intro listed a w hf hI hJ hm
    exfalso
    refine hnr listed a w hI (hm _ (Nat.le_refl _)) ?_
    apply List.eq_nil_iff_forall_not_mem.2
    intro i hi
    obtain ⟨h1, o, ho, _⟩ := mem_ready.1 hi
    have hi' : i < (init ++ z :: zs).length := by
      have := (Array.getElem?_eq_some_iff.1 ho).1
      simpa using this
    have := left_set hi' hI.len h1
    omega
  | succ fuel ih =>
    intro listed a w hfu hI hJ hm
    by_cases hli : ∀ j, j < init.length → listed.getD j false = true
    · have h := hend (init.map (opVal a)) w listed hJ hli hm (holds_map hlen fun i o f hio hf => hI.fact i o f (hin i o hio).1 hf (hli i (hin i o hio).2))
      rw [putAll_self hI.size hI.defers (fun o ho d hd => by
        obtain ⟨i, hi⟩ := List.getElem?_of_mem ho
        exact okB_dst hok (hin i o hi).1 hd) (fun t ht => hI.frame t fun i o ho hl => by
          by_cases h2 : i < init.length
          · rw [List.getElem?_append_left h2] at ho
            exact ht o (List.mem_of_getElem? ho)
          · rw [hm i (by omega)] at hl
            cases hl)] at h
      exact tail_run hok (z :: zs) init _ listed a w rfl hch hI.len hli hm hfu h
    refine ⟨fun hr => (hnr listed a w hI (hm _ (Nat.le_refl _)) hr).elim, fun i hi => ?_⟩
    obtain ⟨hun, o, ho', hall⟩ := mem_ready.1 hi
    have ho : (init ++ z :: zs)[i]? = some o := by simpa using ho'
    have hil : i < (init ++ z :: zs).length := (List.getElem?_eq_some_iff.1 ho).1
    have hil2 : i < listed.size := by rw [hI.len]; exact hil
    have hun' : listed.getD i false = false := by
      simpa [hil2] using hun
    have hwl : ∀ j, waits o j = true → listed.getD j false = true := fun j hw => by
      obtain ⟨e, he, hb⟩ := List.any_eq_true.1 hw
      rw [Array.mem_toList_iff] at he
      simp only [Bool.and_eq_true, bindsB, beq_iff_eq] at hb
      have h1 := hall e he hb.1
      rwa [hb.2] at h1
    have him2 : i < init.length := by
      by_cases hlt : i < init.length
      · exact hlt
      · exfalso
        by_cases he : i = init.length
        · subst he
          obtain rfl : z = o := by rw [hlast] at ho; cases ho; rfl
          refine hli fun j hj => ?_
          have key : ∀ t j, j < init.length → init.length - j ≤ t → listed.getD j false = true := by
            intro t
            induction t with
            | zero => intro j hj ht; omega
            | succ t iht =>
              intro j hj ht
              have hw := List.all_eq_true.1 hz j (List.mem_range.2 hj)
              rw [Bool.or_eq_true] at hw
              rcases hw with hw | hw
              · exact hwl j hw
              · obtain ⟨i, hi, hb⟩ := List.any_eq_true.1 hw
                rw [List.mem_range] at hi
                rw [Bool.and_eq_true, decide_eq_true_eq] at hb
                have hii : init[i]? = some init[i] := List.getElem?_eq_getElem hi
                have hb2 := hb.2
                rw [hii] at hb2
                exact hI.closed i init[i] (by rw [List.getElem?_append_left hi]; exact hii) (iht i hi (by omega)) j hb2
          exact key _ j hj (Nat.le_refl _)
        · have hw := chain_at hch (i - init.length - 1) o (by
            rw [List.getElem?_append_right (by omega)] at ho
            rw [show i - init.length - 1 + 1 = i - init.length by omega]
            exact ho)
          have := hwl _ hw
          rw [hm _ (by omega)] at this
          cases this
    have hoi : init[i]? = some o := by rw [List.getElem?_append_left him2] at ho; exact ho
    obtain ⟨f, hf⟩ : ∃ f, fs[i]? = some f := ⟨_, List.getElem?_eq_getElem (show i < fs.length by omega)⟩
    have hS := hstep i o f hoi hf
    rw [Nat.zero_add] at hS
    have hclo : ∀ j p, (init ++ z :: zs)[j]? = some p → waits p i = true → listed.getD j false = false := fun j p hp hw => by
      cases hl : listed.getD j false with
      | false => rfl
      | true =>
        have := hI.closed j p hp hl i hw
        rw [hun'] at this
        cases this
    have hS := hS listed a w hJ hil2 hun' hwl hclo
      (fun j p g hp hg hw => hI.fact j p g hp hg (hwl j hw))
      (fun t ht => hI.frame t fun j p hp hl he => by
        have h1 := List.all_eq_true.1 ht p (List.mem_of_getElem? hp)
        simp only [he, bne_self_eq_false, Bool.false_or] at h1
        have := hI.closed j p hp hl i h1
        rw [hun'] at this
        cases this) hI.size
    have hleft := left_set hil hI.len hun
    have hd : o.dst ≠ none := by
      have := List.all_eq_true.1 hsome o (List.mem_of_getElem? hoi)
      intro h
      rw [h] at this
      cases this
    have hm' : ∀ j, init.length ≤ j → (listed.setIfInBounds i true).getD j false = false := fun j hj => by
      rw [getD_set_ne (by omega)]
      exact hm j hj
    have go : ∀ v w', J (listed.setIfInBounds i true) w' → R w w' → f v w' → wpAny P .any (init ++ z :: zs).toArray Q fuel (listed.setIfInBounds i true) (a.put o.dst v) w' := fun v w' hw hr hv =>
      ih _ _ _ (by omega) (inv_put hR hst hok ho hf hI hall hr hv (fun h => absurd h hd)) hw hm'
    unfold wpOp
    rw [ho']
    dsimp only
    split
    · rename_i hw
      rw [if_pos hw] at hS
      exact .inl (wp_of_OpUp (hS _ go))
    · rename_i hw
      rw [if_neg hw] at hS
      exact go _ _ hS.1 (hRr _) hS.2
/-- The region with a tail, told by J: m operations, then the tail: every order. -/
theorem wpAny_jr {w : World} (R : World → World → Prop) (hR : ∀ a b c, R a b → R b c → R a c) (hRr : ∀ a, R a a) (J : Array Bool → World → Prop) (n m : Nat) (fs : List Fact) (hn : a0.tmps.size = n)
    (hzl : ops.drop m = z :: zs)
    (hst : ∀ f ∈ fs, ∀ v w w', f v w → R w w' → f v w') (hok : okB n ops = true) (hsome : ((ops.take m).all fun o => o.dst.isSome) = true) (hz : allWait (ops.take m) z = true) (hch : chainB (ops.take m).length (z :: zs) = true)
    (h0 : J (Array.replicate ops.length false) w.drew)
    (hstep : StepsJ P ops R J fs a0 0 (ops.take m) fs)
    (hend : ∀ vs w' listed, J listed w' → (∀ j, j < (ops.take m).length → listed.getD j false = true) → (∀ j, (ops.take m).length ≤ j → listed.getD j false = false) → Holds fs vs w' → wpList P ops.toArray Q (z :: zs) (putAll a0 (ops.take m) vs) w') : wpAny P .any ops.toArray Q ops.toArray.size (Array.replicate ops.toArray.size false) a0 w.drew := by
  have h : ops = ops.take m ++ z :: zs := by rw [← hzl, List.take_append_drop]
  generalize ops.take m = init at *
  subst h
  refine wpAny_j (w0 := w.drew) hR hRr hst (by rw [hn]; exact hok) hsome hz hch hstep hend _ _ _ _ ?_ ⟨hRr _, ?_, fun t _ => rfl, rfl, rfl, by simp, ?_⟩ ?_ ?_
  · simp only [left_]
    exact Nat.le_trans List.countP_le_length (by simp)
  · intro i o f ho hf hl
    by_cases h : i < (init ++ z :: zs).length <;> simp at h hl <;> simp [h] at hl
  · intro j p hp hl
    by_cases h : j < (init ++ z :: zs).length <;> simp at h hl <;> simp [h] at hl
  · simpa using h0
  · intro j hj
    by_cases h : j < (init ++ z :: zs).length <;> simp at h ⊢ <;> simp [h]
/-- **The region with a tail, told by J**: m operations, then the tail. -/
theorem wp_region_jr {id : Nat} {w : World} (R : World → World → Prop) (hR : ∀ a b c, R a b → R b c → R a c) (hRr : ∀ a, R a a) (J : Array Bool → World → Prop) (n m : Nat) (fs : List Fact) (hm : P.follows .mixedOrders = true) (hn : a0.tmps.size = n)
    (hzl : ops.drop m = z :: zs)
    (hst : ∀ f ∈ fs, ∀ v w w', f v w → R w w' → f v w') (hok : okB n ops = true) (hsome : ((ops.take m).all fun o => o.dst.isSome) = true) (hz : allWait (ops.take m) z = true) (hch : chainB (ops.take m).length (z :: zs) = true)
    (h0 : J (Array.replicate ops.length false) w.drew)
    (hstep : StepsJ P ops R J fs a0 0 (ops.take m) fs)
    (hend : ∀ vs w' listed, J listed w' → (∀ j, j < (ops.take m).length → listed.getD j false = true) → (∀ j, (ops.take m).length ≤ j → listed.getD j false = false) → Holds fs vs w' → wpList P ops.toArray Q (z :: zs) (putAll a0 (ops.take m) vs) w') : (Code.region id ops.toArray true).wp P Q a0 w :=
  wp_region_any hm (wpAny_jr R hR hRr J n m fs hn hzl hst hok hsome hz hch h0 hstep hend)
theorem wp_region_j {id : Nat} {w : World} (J : Array Bool → World → Prop) (n m : Nat) (fs : List Fact) (hm : P.follows .mixedOrders = true) (hn : a0.tmps.size = n)
    (hzl : ops.drop m = z :: zs)
    (hst : ∀ f ∈ fs, ∀ v w w', f v w → True → f v w') (hok : okB n ops = true) (hsome : ((ops.take m).all fun o => o.dst.isSome) = true) (hz : allWait (ops.take m) z = true) (hch : chainB (ops.take m).length (z :: zs) = true)
    (h0 : J (Array.replicate ops.length false) w.drew)
    (hstep : StepsJ P ops (fun _ _ => True) J fs a0 0 (ops.take m) fs)
    (hend : ∀ vs w' listed, J listed w' → (∀ j, j < (ops.take m).length → listed.getD j false = true) → (∀ j, (ops.take m).length ≤ j → listed.getD j false = false) → Holds fs vs w' → wpList P ops.toArray Q (z :: zs) (putAll a0 (ops.take m) vs) w') : (Code.region id ops.toArray true).wp P Q a0 w :=
  wp_region_jr (fun _ _ => True) (fun _ _ _ _ _ => trivial) (fun _ => trivial) J n m fs hm hn hzl hst hok hsome hz hch h0 hstep hend
theorem steps_j {R : World → World → Prop} (hR : ∀ a b c, R a b → R b c → R a c) {w0 : World} : ∀ {i : Nat} {os : List Oper} {gs : List Fact}, StepsOK P ops R fs a0 w0 i os gs → StepsJ P ops R (fun _ w => R w0 w) fs a0 i os gs
  | i, o :: os, f :: gs, h => by
    refine ⟨?_, steps_j hR h.2⟩
    intro listed a w hJ _ _ _ _ hF hU hsz
    have h1 := h.1 a w hJ hF hU hsz
    split at h1
    · rename_i hw
      rw [if_pos hw]
      exact fun K hK => h1 K fun v w' hr hf => hK v w' (hR _ _ _ hJ hr) hr hf
    · rename_i hw
      rw [if_neg hw]
      exact ⟨hJ, h1⟩
  | i, [], [], _ => trivial
  | i, [], _ :: _, h => h.elim
  | i, _ :: _, [], h => h.elim
theorem wpAny_tail {w : World} (n m : Nat) (fs : List Fact) (hzl : ops.drop m = z :: zs) (hn : a0.tmps.size = n)
    (hst : ∀ f ∈ fs, ∀ v w w', f v w → Stood w w' → f v w') (hok : okB n ops = true) (hsome : ((ops.take m).all fun o => o.dst.isSome) = true) (hz : allWait (ops.take m) z = true) (hch : chainB (ops.take m).length (z :: zs) = true)
    (hstep : StepsOK P ops Stood fs a0 w.drew 0 (ops.take m) fs)
    (hend : ∀ vs w', Stood w.drew w' → Holds fs vs w' → wpList P ops.toArray Q (z :: zs) (putAll a0 (ops.take m) vs) w') : wpAny P .any ops.toArray Q ops.toArray.size (Array.replicate ops.toArray.size false) a0 w.drew :=
  wpAny_jr Stood Stood.trans Stood.refl (fun _ w' => Stood w.drew w') n m fs hn hzl hst hok hsome hz hch (Stood.refl _) (steps_j Stood.trans hstep) (fun vs w' _ hJ _ _ hh => hend vs w' hJ hh)
/-- **The region with a tail**: m operations that leave what stood, then the tail. -/
theorem wp_region_tail {id : Nat} {w : World} (n m : Nat) (fs : List Fact) (hzl : ops.drop m = z :: zs) (hm : P.follows .mixedOrders = true) (hn : a0.tmps.size = n)
    (hst : ∀ f ∈ fs, ∀ v w w', f v w → Stood w w' → f v w') (hok : okB n ops = true) (hsome : ((ops.take m).all fun o => o.dst.isSome) = true) (hz : allWait (ops.take m) z = true) (hch : chainB (ops.take m).length (z :: zs) = true)
    (hstep : StepsOK P ops Stood fs a0 w.drew 0 (ops.take m) fs)
    (hend : ∀ vs w', Stood w.drew w' → Holds fs vs w' → wpList P ops.toArray Q (z :: zs) (putAll a0 (ops.take m) vs) w') : (Code.region id ops.toArray true).wp P Q a0 w :=
  wp_region_jr Stood Stood.trans Stood.refl (fun _ w' => Stood w.drew w') n m fs hm hn hzl hst hok hsome hz hch (Stood.refl _) (steps_j Stood.trans hstep) (fun vs w' _ hJ _ _ hh => hend vs w' hJ hh)
end
end Go.Proofs.Ytfdngdnnjmcigaa
