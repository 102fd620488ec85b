/- A region that draws its order, of which the last operation waits for all others (a store at its end): facts for all but the last, which is walked plainly. Conditions: the Bool okB of the region's operations, and that the last waits for all. -/
import Derived.Test.YtfdngdnnjmcigaaRegion
namespace Go.Proofs.Ytfdngdnnjmcigaa
open Go.RowKit
set_option linter.unusedVariables false
set_option linter.unusedSimpArgs false
section
variable {P : Program} {Q : Exit → Act → World → Prop} {R : World → World → Prop} {fs : List Fact} {a0 : Act} {w0 : World} {init : List Oper} {z : Oper}
theorem wpAny_all {ops : Array Oper} {a : Act} {w : World} {listed : Array Bool} (hl : listed.size = ops.size) (h : ∀ i, i < ops.size → listed.getD i false = true) (hq : Q .normal a w) : ∀ fuel, wpAny P .any ops Q fuel listed a w := by
  have hr : Region.ready .any ops listed = [] := by
    apply List.eq_nil_iff_forall_not_mem.2
    intro i hi
    obtain ⟨h1, o, ho, _⟩ := mem_ready.1 hi
    have hi' : i < ops.size := (Array.getElem?_eq_some_iff.1 ho).1
    have h2 := h i hi'
    have : i < listed.size := by omega
    simp [this] at h1 h2
    rw [h1] at h2
    cases h2
  intro fuel
  cases fuel with
  | zero => exact ⟨hr, hq⟩
  | succ fuel => exact ⟨fun _ => hq, fun i hi => by rw [hr] at hi; cases hi⟩
/-- z waits for all of them, itself or through others. -/
def allWait (init : List Oper) (z : Oper) : Bool := (List.range init.length).all fun j => waits z j || (List.range init.length).any fun i => decide (j < i) && (match init[i]? with | some p => waits p j | none => false)
theorem wpAny_inv_last (hR : ∀ a b c, R a b → R b c → R a c) (hRr : ∀ a, R a a) (hst : ∀ f ∈ fs, ∀ v w w', f v w → R w w' → f v w') (hok : okB a0.tmps.size (init ++ [z]) = true)
    (hsome : (init.all fun o => o.dst.isSome) = true) (hz : allWait init z = true)
    (hstep : StepsOK P (init ++ [z]) R fs a0 w0 0 init fs)
    (hend : ∀ vs w, R w0 w → Holds fs vs w → wpList P (init ++ [z]).toArray Q [z] (putAll a0 init vs) w) :
    ∀ (fuel : Nat) (listed : Array Bool) (a : Act) (w : World), left_ listed (init ++ [z]).length ≤ fuel → Inv (init ++ [z]) R fs a0 w0 listed a w → listed.getD init.length false = false → wpAny P .any (init ++ [z]).toArray Q fuel listed a w := by
  obtain ⟨hlen, hstep⟩ := hstep.at_
  have hlast : (init ++ [z])[init.length]? = some z := by simp
  have hnr : ∀ listed a w, Inv (init ++ [z]) R fs a0 w0 listed a w → listed.getD init.length false = false → Region.ready .any (init ++ [z]).toArray listed = [] → False := fun listed a w hI hm hr => by
    have := ready_nil hok hI.len hr init.length z hlast
    rw [hm] at this
    cases this
  intro fuel
  induction fuel with
  | zero =>
    intro listed a w hf hI hm
    exfalso
    refine hnr listed a w hI hm ?_
    apply List.eq_nil_iff_forall_not_mem.2
    intro i hi
    obtain ⟨h1, o, ho, _⟩ := mem_ready.1 hi
    have hi' : i < (init ++ [z]).length := by
      have := (Array.getElem?_eq_some_iff.1 ho).1
      simpa using this
    have := left_set hi' hI.len h1
    omega
  | succ fuel ih =>
    intro listed a w hfu hI hm
    refine ⟨fun hr => (hnr listed a w hI hm hr).elim, fun i hi => ?_⟩
    obtain ⟨hun, o, ho', hall⟩ := mem_ready.1 hi
    have ho : (init ++ [z])[i]? = some o := by simpa using ho'
    have hil : i < (init ++ [z]).length := (List.getElem?_eq_some_iff.1 ho).1
    have hun' : listed.getD i false = false := by
      have : i < listed.size := by rw [hI.len]; exact hil
      simpa [this] using hun
    by_cases him : i = init.length
    · subst him
      obtain rfl : z = o := by rw [hlast] at ho; cases ho; rfl
      have hli : ∀ t j, j < init.length → init.length - j ≤ t → listed.getD j false = true := by
        intro t
        induction t with
        | zero => intro j hj ht; omega
        | succ t iht =>
          intro j hj ht
          have hw := List.all_eq_true.1 hz j (List.mem_range.2 hj)
          rw [Bool.or_eq_true] at hw
          rcases hw with hw | hw
          · obtain ⟨e, he, hb⟩ := List.any_eq_true.1 hw
            rw [Array.mem_toList_iff] at he
            simp only [Bool.and_eq_true, bindsB, beq_iff_eq] at hb
            have h1 := hall e he hb.1
            rwa [hb.2] at h1
          · obtain ⟨i, hi, hb⟩ := List.any_eq_true.1 hw
            rw [List.mem_range] at hi
            rw [Bool.and_eq_true, decide_eq_true_eq] at hb
            have hii : init[i]? = some init[i] := List.getElem?_eq_getElem hi
            have hb2 := hb.2
            rw [hii] at hb2
            exact hI.closed i init[i] (by rw [List.getElem?_append_left hi]; exact hii) (iht i hi (by omega)) j hb2
      have hli : ∀ j, j < init.length → listed.getD j false = true := fun j hj => hli _ j hj (Nat.le_refl _)
      have hin : ∀ i o, init[i]? = some o → (init ++ [z])[i]? = some o ∧ i < init.length := fun i o h => by
        have hi := (List.getElem?_eq_some_iff.1 h).1
        exact ⟨by rw [List.getElem?_append_left hi]; exact h, hi⟩
      have h := hend (init.map (opVal a)) w hI.rel (holds_map hlen fun i o f hio hf => hI.fact i o f (hin i o hio).1 hf (hli i (hin i o hio).2))
      rw [putAll_self hI.size hI.defers (fun o ho d hd => by
        obtain ⟨i, hi⟩ := List.getElem?_of_mem ho
        exact okB_dst hok (hin i o hi).1 hd) (fun t ht => hI.frame t fun i o ho hl => by
          by_cases h2 : i < init.length
          · rw [List.getElem?_append_left h2] at ho
            exact ht o (List.mem_of_getElem? ho)
          · have h3 := (List.getElem?_eq_some_iff.1 ho).1
            simp at h3
            have : i = init.length := by omega
            rw [this, hm] at hl
            cases hl)] at h
      have hQ : ∀ a' w', Q .normal a' w' → wpAny P .any (init ++ [z]).toArray Q fuel (listed.setIfInBounds init.length true) a' w' := fun a' w' hq => by
        refine wpAny_all (by simp [hI.len]) (fun j hj => ?_) hq fuel
        have hj' : j < init.length + 1 := by simpa using hj
        by_cases hj2 : j = init.length
        · subst hj2
          have : init.length < listed.size := by rw [hI.len]; simp
          simp [this]
        · have := hli j (by omega)
          simpa [Array.getElem?_setIfInBounds, Ne.symm hj2] using this
      unfold wpOp
      rw [ho']
      dsimp only
      unfold wpList at h
      split at h
      · rename_i hw
        rw [if_pos hw]
        rcases h with h | h
        · exact .inl (Oper.wp_mono (fun a' w' hq => hQ a' w' (by unfold wpList at hq; exact hq)) h)
        · exact .inr h
      · rename_i hw
        rw [if_neg hw]
        unfold wpList at h
        exact hQ _ _ h
    · have him2 : i < init.length := by simp at hil; omega
      have hoi : init[i]? = some o := by rw [List.getElem?_append_left him2] at ho; exact ho
      obtain ⟨f, hf⟩ : ∃ f, fs[i]? = some f := ⟨_, List.getElem?_eq_getElem (show i < fs.length by omega)⟩
      have hS := hstep i o f hoi hf
      rw [Nat.zero_add] at hS
      have hS := hS a w hI.rel
        (fun j p g hp hg hw => by
          obtain ⟨e, he, hb⟩ := List.any_eq_true.1 hw
          rw [Array.mem_toList_iff] at he
          simp only [Bool.and_eq_true, bindsB, beq_iff_eq] at hb
          have h1 := hall e he hb.1
          rw [hb.2] at h1
          exact hI.fact j p g hp hg h1)
        (fun t ht => hI.frame t fun j p hp hl he => by
          have h1 := List.all_eq_true.1 ht p (List.mem_of_getElem? hp)
          simp only [he, bne_self_eq_false, Bool.false_or] at h1
          have := hI.closed j p hp hl i h1
          rw [hun'] at this
          cases this) hI.size
      have hleft := left_set hil hI.len hun
      have hd : o.dst ≠ none := by
        have := List.all_eq_true.1 hsome o (List.mem_of_getElem? hoi)
        intro h
        rw [h] at this
        cases this
      have hm' : (listed.setIfInBounds i true).getD init.length false = false := by
        simpa [Array.getElem?_setIfInBounds, him] using hm
      have go : ∀ v w', R w w' → f v w' → wpAny P .any (init ++ [z]).toArray Q fuel (listed.setIfInBounds i true) (a.put o.dst v) w' := fun v w' hw hv =>
        ih _ _ _ (by omega) (inv_put hR hst hok ho hf hI hall hw hv (fun h => absurd h hd)) hm'
      unfold wpOp
      rw [ho']
      dsimp only
      split
      · rename_i hw
        rw [if_pos hw] at hS
        exact .inl (wp_of_OpUp (hS _ go))
      · rename_i hw
        rw [if_neg hw] at hS
        exact go _ _ (hRr _) hS
/-- **The region whose last operation waits for all others.** -/
theorem wp_region_last' {id : Nat} {w : World} (n : Nat) (fs : List Fact) (hm : P.follows .mixedOrders = true) (hn : a0.tmps.size = n)
    (hst : ∀ f ∈ fs, ∀ v w w', f v w → Stood w w' → f v w') (hok : okB n (init ++ [z]) = true) (hsome : (init.all fun o => o.dst.isSome) = true) (hz : allWait init z = true)
    (hstep : StepsOK P (init ++ [z]) Stood fs a0 w.drew 0 init fs)
    (hend : ∀ vs w', Stood w.drew w' → Holds fs vs w' → wpList P (init ++ [z]).toArray Q [z] (putAll a0 init vs) w') : (Code.region id (init ++ [z]).toArray true).wp P Q a0 w := by
  refine wp_region_any hm (wpAny_inv_last (w0 := w.drew) Stood.trans Stood.refl hst (by rw [hn]; exact hok) hsome hz hstep hend _ _ _ _ ?_ ⟨Stood.refl _, ?_, fun t _ => rfl, rfl, rfl, by simp, ?_⟩ (by simp))
  · simp only [left_]
    exact Nat.le_trans List.countP_le_length (by simp)
  · intro i o f ho hf hl
    by_cases h : i < (init ++ [z]).length <;> simp at h hl <;> simp [h] at hl
  · intro j p hp hl
    by_cases h : j < (init ++ [z]).length <;> simp at h hl <;> simp [h] at hl
theorem wp_region_last {ops : List Oper} {id : Nat} {w : World} (n : Nat) (fs : List Fact) (hzl : ops.getLast? = some z) (hm : P.follows .mixedOrders = true) (hn : a0.tmps.size = n)
    (hst : ∀ f ∈ fs, ∀ v w w', f v w → Stood w w' → f v w') (hok : okB n ops = true) (hsome : (ops.dropLast.all fun o => o.dst.isSome) = true) (hz : allWait ops.dropLast z = true)
    (hstep : StepsOK P ops Stood fs a0 w.drew 0 ops.dropLast fs)
    (hend : ∀ vs w', Stood w.drew w' → Holds fs vs w' → wpList P ops.toArray Q [z] (putAll a0 ops.dropLast vs) w') : (Code.region id ops.toArray true).wp P Q a0 w := by
  have h : ops = ops.dropLast ++ [z] := by
    have hne : ops ≠ [] := by rintro rfl; cases hzl
    have h1 := List.dropLast_concat_getLast hne
    rw [List.getLast?_eq_some_getLast hne] at hzl
    cases hzl
    exact h1.symm
  generalize ops.dropLast = init at *
  subst h
  exact wp_region_last' n fs hm hn hst hok hsome hz hstep hend
end
end Go.Proofs.Ytfdngdnnjmcigaa
