/- A region with a tail, told by a law J of what is done, of the temporaries and of the world; also in a round. No condition. -/
import Derived.Test.YtfdngdnnjmcigaaRegionIn
namespace Go.Proofs.Ytfdngdnnjmcigaa
open Go.RowKit
set_option linter.unusedVariables false
set_option linter.unusedSimpArgs false
section
variable {P : Program} {ops init : List Oper} {z : Oper} {zs : List Oper} {Q : Exit → Act → World → Prop} {fs : List Fact} {a0 : Act} {w0 : World}
def StepJA (P : Program) (ops : List Oper) (R : World → World → Prop) (J : Array Bool → Act → World → Prop) (fs : List Fact) (a0 : Act) (i : Nat) (o : Oper) (f : Fact) : Prop :=
  ∀ listed a w, J listed a w → i < listed.size → listed.getD i false = false → (∀ j, waits o j = true → listed.getD j false = true) → (∀ j p, ops[j]? = some p → waits p i = true → listed.getD j false = false) →
    (∀ j p g, ops[j]? = some p → fs[j]? = some g → waits o j = true → g (opVal a p) w) →
    (∀ t, freeB ops i t = true → a.tmps.getD t undef = a0.tmps.getD t undef) → a.tmps.size = a0.tmps.size →
    if Region.wanted o (yielded ops.toArray a.tmps) = true then ∀ K : Fact, (∀ v w', J (listed.setIfInBounds i true) (a.put o.dst v) w' → R w w' → f v w' → K v w') → OpUp P K ((execOp a.eval o).run P w) else (J (listed.setIfInBounds i true) (a.put o.dst undef) w ∧ f undef w)
def StepsJA (P : Program) (ops : List Oper) (R : World → World → Prop) (J : Array Bool → Act → World → Prop) (fs : List Fact) (a0 : Act) : Nat → List Oper → List Fact → Prop
  | i, o :: os, f :: gs => StepJA P ops R J fs a0 i o f ∧ StepsJA P ops R J fs a0 (i + 1) os gs
  | _, [], [] => True
  | _, _, _ => False
theorem StepsJA.at_ {R : World → World → Prop} {J : Array Bool → Act → World → Prop} : ∀ {i : Nat} {os : List Oper} {gs : List Fact}, StepsJA P ops R J fs a0 i os gs →
    os.length = gs.length ∧ ∀ k o f, os[k]? = some o → gs[k]? = some f → StepJA P ops R J fs a0 (i + k) o f
  | i, o :: os, f :: gs, h => by
    obtain ⟨h1, h2⟩ := h
    obtain ⟨h3, h4⟩ := h2.at_
    refine ⟨by simp [h3], fun k o' f' ho hf => ?_⟩
    cases k with
    | zero =>
      simp at ho hf
      subst ho; subst hf
      exact h1
    | succ k =>
      simp at ho hf
      have := h4 k o' f' ho hf
      rwa [show i + 1 + k = i + (k + 1) by omega] at this
  | i, [], [], _ => ⟨rfl, fun k o f ho => by simp at ho⟩
  | i, [], _ :: _, h => h.elim
  | i, _ :: _, [], h => h.elim
theorem wpAny_ja {R : World → World → Prop} (hR : ∀ a b c, R a b → R b c → R a c) (hRr : ∀ a, R a a) {J : Array Bool → Act → World → Prop} (hst : ∀ f ∈ fs, ∀ v w w', f v w → R w w' → f v w') (hok : okB a0.tmps.size (init ++ z :: zs) = true)
    (hsome : (init.all fun o => o.dst.isSome) = true) (hz : allWait init z = true) (hch : chainB init.length (z :: zs) = true)
    (hstep : StepsJA P (init ++ z :: zs) R J fs a0 0 init fs)
    (hend : ∀ vs w listed, J listed (putAll a0 init vs) w → (∀ j, j < init.length → listed.getD j false = true) → (∀ j, init.length ≤ j → listed.getD j false = false) → Holds fs vs w → wpList P (init ++ z :: zs).toArray Q (z :: zs) (putAll a0 init vs) w) :
    ∀ (fuel : Nat) (listed : Array Bool) (a : Act) (w : World), left_ listed (init ++ z :: zs).length ≤ fuel → Inv (init ++ z :: zs) R fs a0 w0 listed a w → J listed a w → (∀ j, init.length ≤ j → listed.getD j false = false) → wpAny P .any (init ++ z :: zs).toArray Q fuel listed a w := by
  obtain ⟨hlen, hstep⟩ := hstep.at_
  have hlast : (init ++ z :: zs)[init.length]? = some z := by simp
  have hnr : ∀ listed a w, Inv (init ++ z :: zs) R fs a0 w0 listed a w → listed.getD init.length false = false → Region.ready .any (init ++ z :: zs).toArray listed = [] → False := fun listed a w hI hm hr => by
    have := ready_nil hok hI.len hr init.length z hlast
    rw [hm] at this
    cases this
  have hin : ∀ i o, init[i]? = some o → (init ++ z :: zs)[i]? = some o ∧ i < init.length := fun i o h => by
    have hi := (List.getElem?_eq_some_iff.1 h).1
    exact ⟨by rw [List.getElem?_append_left hi]; exact h, hi⟩
  intro fuel
  induction fuel with
  | zero =>
    intro listed a w hf hI hJ hm
    exfalso
    refine hnr listed a w hI (hm _ (Nat.le_refl _)) ?_
    apply List.eq_nil_iff_forall_not_mem.2
    intro i hi
    obtain ⟨h1, o, ho, _⟩ := mem_ready.1 hi
    have hi' : i < (init ++ z :: zs).length := by
      have := (Array.getElem?_eq_some_iff.1 ho).1
      simpa using this
    have := left_set hi' hI.len h1
    omega
  | succ fuel ih =>
    intro listed a w hfu hI hJ hm
    by_cases hli : ∀ j, j < init.length → listed.getD j false = true
    · have e := putAll_self hI.size hI.defers (fun o ho d hd => by
        obtain ⟨i, hi⟩ := List.getElem?_of_mem ho
        exact okB_dst hok (hin i o hi).1 hd) (fun t ht => hI.frame t fun i o ho hl => by
          by_cases h2 : i < init.length
          · rw [List.getElem?_append_left h2] at ho
            exact ht o (List.mem_of_getElem? ho)
          · rw [hm i (by omega)] at hl
            cases hl)
      have h := hend (init.map (opVal a)) w listed (by rw [e]; exact hJ) hli hm (holds_map hlen fun i o f hio hf => hI.fact i o f (hin i o hio).1 hf (hli i (hin i o hio).2))
      rw [e] at h
      exact tail_run hok (z :: zs) init _ listed a w rfl hch hI.len hli hm hfu h
    refine ⟨fun hr => (hnr listed a w hI (hm _ (Nat.le_refl _)) hr).elim, fun i hi => ?_⟩
    obtain ⟨hun, o, ho', hall⟩ := mem_ready.1 hi
    have ho : (init ++ z :: zs)[i]? = some o := by simpa using ho'
    have hil : i < (init ++ z :: zs).length := (List.getElem?_eq_some_iff.1 ho).1
    have hil2 : i < listed.size := by rw [hI.len]; exact hil
    have hun' : listed.getD i false = false := by
      simpa [hil2] using hun
    have hwl : ∀ j, waits o j = true → listed.getD j false = true := fun j hw => by
      obtain ⟨e, he, hb⟩ := List.any_eq_true.1 hw
      rw [Array.mem_toList_iff] at he
      simp only [Bool.and_eq_true, bindsB, beq_iff_eq] at hb
      have h1 := hall e he hb.1
      rwa [hb.2] at h1
    have him2 : i < init.length := by
      by_cases hlt : i < init.length
      · exact hlt
      · exfalso
        by_cases he : i = init.length
        · subst he
          obtain rfl : z = o := by rw [hlast] at ho; cases ho; rfl
          refine hli fun j hj => ?_
          have key : ∀ t j, j < init.length → init.length - j ≤ t → listed.getD j false = true := by
            intro t
            induction t with
            | zero => intro j hj ht; omega
            | succ t iht =>
              intro j hj ht
              have hw := List.all_eq_true.1 hz j (List.mem_range.2 hj)
              rw [Bool.or_eq_true] at hw
              rcases hw with hw | hw
              · exact hwl j hw
              · obtain ⟨i, hi, hb⟩ := List.any_eq_true.1 hw
                rw [List.mem_range] at hi
                rw [Bool.and_eq_true, decide_eq_true_eq] at hb
                have hii : init[i]? = some init[i] := List.getElem?_eq_getElem hi
                have hb2 := hb.2
                rw [hii] at hb2
                exact hI.closed i init[i] (by rw [List.getElem?_append_left hi]; exact hii) (iht i hi (by omega)) j hb2
          exact key _ j hj (Nat.le_refl _)
        · have hw := chain_at hch (i - init.length - 1) o (by
            rw [List.getElem?_append_right (by omega)] at ho
            rw [show i - init.length - 1 + 1 = i - init.length by omega]
            exact ho)
          have := hwl _ hw
          rw [hm _ (by omega)] at this
          cases this
    have hoi : init[i]? = some o := by rw [List.getElem?_append_left him2] at ho; exact ho
    obtain ⟨f, hf⟩ : ∃ f, fs[i]? = some f := ⟨_, List.getElem?_eq_getElem (show i < fs.length by omega)⟩
    have hS := hstep i o f hoi hf
    rw [Nat.zero_add] at hS
    have hclo : ∀ j p, (init ++ z :: zs)[j]? = some p → waits p i = true → listed.getD j false = false := fun j p hp hw => by
      cases hl : listed.getD j false with
      | false => rfl
      | true =>
        have := hI.closed j p hp hl i hw
        rw [hun'] at this
        cases this
    have hS := hS listed a w hJ hil2 hun' hwl hclo
      (fun j p g hp hg hw => hI.fact j p g hp hg (hwl j hw))
      (fun t ht => hI.frame t fun j p hp hl he => by
        have h1 := List.all_eq_true.1 ht p (List.mem_of_getElem? hp)
        simp only [he, bne_self_eq_false, Bool.false_or] at h1
        have := hI.closed j p hp hl i h1
        rw [hun'] at this
        cases this) hI.size
    have hleft := left_set hil hI.len hun
    have hd : o.dst ≠ none := by
      have := List.all_eq_true.1 hsome o (List.mem_of_getElem? hoi)
      intro h
      rw [h] at this
      cases this
    have hm' : ∀ j, init.length ≤ j → (listed.setIfInBounds i true).getD j false = false := fun j hj => by
      rw [getD_set_ne (by omega)]
      exact hm j hj
    have go : ∀ v w', J (listed.setIfInBounds i true) (a.put o.dst v) w' → R w w' → f v w' → wpAny P .any (init ++ z :: zs).toArray Q fuel (listed.setIfInBounds i true) (a.put o.dst v) w' := fun v w' hw hr hv =>
      ih _ _ _ (by omega) (inv_put hR hst hok ho hf hI hall hr hv (fun h => absurd h hd)) hw hm'
    unfold wpOp
    rw [ho']
    dsimp only
    split
    · rename_i hw
      rw [if_pos hw] at hS
      exact .inl (wp_of_OpUp (hS _ go))
    · rename_i hw
      rw [if_neg hw] at hS
      exact go _ _ hS.1 (hRr _) hS.2
/-- The region with a tail, told by J: m operations, then the tail: every order. -/
theorem wpAny_jra {w : World} (R : World → World → Prop) (hR : ∀ a b c, R a b → R b c → R a c) (hRr : ∀ a, R a a) (J : Array Bool → Act → World → Prop) (n m : Nat) (fs : List Fact) (hn : a0.tmps.size = n)
    (hzl : ops.drop m = z :: zs)
    (hst : ∀ f ∈ fs, ∀ v w w', f v w → R w w' → f v w') (hok : okB n ops = true) (hsome : ((ops.take m).all fun o => o.dst.isSome) = true) (hz : allWait (ops.take m) z = true) (hch : chainB (ops.take m).length (z :: zs) = true)
    (h0 : J (Array.replicate ops.length false) a0 w.drew)
    (hstep : StepsJA P ops R J fs a0 0 (ops.take m) fs)
    (hend : ∀ vs w' listed, J listed (putAll a0 (ops.take m) vs) w' → (∀ j, j < (ops.take m).length → listed.getD j false = true) → (∀ j, (ops.take m).length ≤ j → listed.getD j false = false) → Holds fs vs w' → wpList P ops.toArray Q (z :: zs) (putAll a0 (ops.take m) vs) w') : wpAny P .any ops.toArray Q ops.toArray.size (Array.replicate ops.toArray.size false) a0 w.drew := by
  have h : ops = ops.take m ++ z :: zs := by rw [← hzl, List.take_append_drop]
  generalize ops.take m = init at *
  subst h
  refine wpAny_ja (w0 := w.drew) hR hRr hst (by rw [hn]; exact hok) hsome hz hch hstep hend _ _ _ _ ?_ ⟨hRr _, ?_, fun t _ => rfl, rfl, rfl, by simp, ?_⟩ ?_ ?_
  · simp only [left_]
    exact Nat.le_trans List.countP_le_length (by simp)
  · intro i o f ho hf hl
    by_cases h : i < (init ++ z :: zs).length <;> simp at h hl <;> simp [h] at hl
  · intro j p hp hl
    by_cases h : j < (init ++ z :: zs).length <;> simp at h hl <;> simp [h] at hl
  · simpa using h0
  · intro j hj
    by_cases h : j < (init ++ z :: zs).length <;> simp at h ⊢ <;> simp [h]
theorem wp_region_ja {id : Nat} {w : World} (R : World → World → Prop) (hR : ∀ a b c, R a b → R b c → R a c) (hRr : ∀ a, R a a) (J : Array Bool → Act → World → Prop) (n m : Nat) (fs : List Fact) (hm : P.follows .mixedOrders = true) (hn : a0.tmps.size = n)
    (hzl : ops.drop m = z :: zs)
    (hst : ∀ f ∈ fs, ∀ v w w', f v w → R w w' → f v w') (hok : okB n ops = true) (hsome : ((ops.take m).all fun o => o.dst.isSome) = true) (hz : allWait (ops.take m) z = true) (hch : chainB (ops.take m).length (z :: zs) = true)
    (h0 : J (Array.replicate ops.length false) a0 w.drew)
    (hstep : StepsJA P ops R J fs a0 0 (ops.take m) fs)
    (hend : ∀ vs w' listed, J listed (putAll a0 (ops.take m) vs) w' → (∀ j, j < (ops.take m).length → listed.getD j false = true) → (∀ j, (ops.take m).length ≤ j → listed.getD j false = false) → Holds fs vs w' → wpList P ops.toArray Q (z :: zs) (putAll a0 (ops.take m) vs) w') : (Code.region id ops.toArray true).wp P Q a0 w :=
  wp_region_any hm (wpAny_jra R hR hRr J n m fs hn hzl hst hok hsome hz hch h0 hstep hend)
theorem wpIn_region_ja {id l nn : Nat} {w : World} (hnd : noDefer ops = true) (R : World → World → Prop) (hR : ∀ a b c, R a b → R b c → R a c) (hRr : ∀ a, R a a) (J : Array Bool → Act → World → Prop) (n m : Nat) (fs : List Fact) (hm : P.follows .mixedOrders = true) (hn : a0.tmps.size = n)
    (hzl : ops.drop m = z :: zs)
    (hst : ∀ f ∈ fs, ∀ v w w', f v w → R w w' → f v w') (hok : okB n ops = true) (hsome : ((ops.take m).all fun o => o.dst.isSome) = true) (hz : allWait (ops.take m) z = true) (hch : chainB (ops.take m).length (z :: zs) = true)
    (h0 : J (Array.replicate ops.length false) a0 w.drew)
    (hstep : StepsJA P ops R J fs a0 0 (ops.take m) fs)
    (hend : ∀ vs w' listed, J listed (putAll a0 (ops.take m) vs) w' → (∀ j, j < (ops.take m).length → listed.getD j false = true) → (∀ j, (ops.take m).length ≤ j → listed.getD j false = false) → Holds fs vs w' → wpList P ops.toArray (OnlyN Q) (z :: zs) (putAll a0 (ops.take m) vs) w') : (Code.region id ops.toArray true).wpIn (Fence.wide.inRound l) nn P Q a0 w :=
  wpIn_region_any hm (wpAny_in hnd _ _ _ _ (wpAny_jra R hR hRr J n m fs hn hzl hst hok hsome hz hch h0 hstep hend))
end
/-- An append carried out inside a region. -/
theorem OpUp_app {P : Program} {K : Fact} {w : World} {o : Oper} {ρ : Operand → Value} (s x : Operand) (t : TypeId)
    (ho : o.op = .call { callee := .builtin .append, args := #[s, x], argTypes := #[t, t] })
    (base : Nat) (e : TypeId) (i : TypeInfo) (z : Value) (size bytes : Nat) (ht : P.underlying t = some (.slice e)) (hi : P.info? e = some i) (hz : i.zero = some z)
    (hsize : i.size = size) (hby : i.bytes = bytes) (hzs : z.cells.size = size) (hsz : 0 < size) (hbp : 0 < bytes)
    (A : Option Addr) (n c : Nat) (cs : List Value) (hs : ρ s = .slice A n c) (hown : w.ownsRow base e size (.slice A n c) n cs)
    (A2 : Option Addr) (m c2 : Nat) (news : List Value) (hx : ρ x = .slice A2 m c2) (hl : news.length = m * size) (hr : Rd w A2 news) (h1 : ∀ u ∈ news, u.oneCell' = true)
    (hb : (n + m) * bytes ≤ 140737488355328) (hbase : base ≤ w.heap.size)
    (h : ∀ A' c' w', w'.ownsRow base e size (.slice A' (n + m) c') (n + m) (cs ++ news) → w.grownBy w' (blk A) → (blk A' = blk A ∨ blk A' = some w.heap.size) → K (.slice A' (n + m) c') w') : OpUp P K ((execOp ρ o).run P w) := by
  obtain ⟨A', c', w', hrun, h2, h3, h4⟩ := run_app (P := P) (w := w) base t o.type e i z size bytes ht hi hz hsize hby hzs hsz hbp A n c cs hown A2 m c2 news hl hr h1 hb hbase
  simp only [execOp, ho, resolve, invoke, builtin, Sem.run_bind, Sem.run_pure, Result.andThen_ok, List.map_toArray, List.map_cons, List.map_nil, hs, hx, hrun]
  exact h A' c' w' h2 h3 h4
end Go.Proofs.Ytfdngdnnjmcigaa
