/- Loops over maps: whichever order is taken; what is told of the loop's end. Conditions: no function is runtime.NumGoroutine; mixed orders are followed; a call's evaluation is the model's. -/
import Derived.Test.YtjblkeofjkdpbaaGreatDoorEngP
namespace Go.Proofs.YtjblkeofjkdpbaaGreatDoor.Eng
open Go Go.RowKit
set_option linter.unusedVariables false
set_option linter.unusedSimpArgs false
theorem argsT_get : ∀ (l : List AV) (i : Nat) (tm tm' : T AV), argsT i tm l = some tm' → ∀ j, tm'.get j = if i ≤ j ∧ j < i + l.length then l[j - i]? else tm.get j
  | [], i, tm, tm', h, j => by
    simp [argsT] at h
    subst h
    rw [if_neg (by simp)]
  | a :: l, i, tm, tm', h, j => by
    simp only [argsT] at h
    split at h
    · rename_i t1 h1
      have hget := T.set_get _ _ _ _ _ h1
      rw [argsT_get l (i + 1) t1 tm' h j]
      simp only [List.length_cons]
      by_cases e : j = i
      · subst e
        rw [if_neg (by omega), if_pos (by omega), hget, if_pos rfl]
        simp
      · by_cases e2 : i + 1 ≤ j ∧ j < i + 1 + l.length
        · rw [if_pos e2, if_pos (by omega), show j - i = (j - (i + 1)) + 1 by omega]
          simp
        · rw [if_neg e2, if_neg (by omega), hget, if_neg e]
    · cases h
/-! ### One state says no more than another -/
theorem eqV0_eq {a b : Value} (h : eqV0 a b = true) : a = b := by
  unfold eqV0 at h
  split at h
  · split at h <;> first | rfl | cases h
  · simp only [Bool.and_eq_true, decide_eq_true_eq] at h
    rw [h.1, h.2]
  · rw [bytes_eq h]
  · rfl
  · simp only [Bool.and_eq_true] at h
    rw [beq_tt h.1, beq_tt h.2]
  · rfl
  · rfl
  · cases h
theorem eqVL_eq : ∀ {l m : List Value}, eqVL l m = true → l = m
  | [], [], _ => rfl
  | [], _ :: _, h => by simp [eqVL] at h
  | _ :: _, [], h => by simp [eqVL] at h
  | a :: l, b :: m, h => by
    simp only [eqVL] at h
    split at h
    · rename_i e; rw [eqV0_eq e, eqVL_eq h]
    · cases h
theorem eqV_eq {a b : Value} (h : eqV a b = true) : a = b := by
  unfold eqV at h
  split at h
  · rw [Array.toList_inj.1 (eqVL_eq h)]
  · rw [Array.toList_inj.1 (eqVL_eq h)]
  · exact eqV0_eq h
theorem eqNL_eq : ∀ {l m : List Nat}, eqNL l m = true → l = m
  | [], [], _ => rfl
  | [], _ :: _, h => by simp [eqNL] at h
  | _ :: _, [], h => by simp [eqNL] at h
  | a :: l, b :: m, h => by
    simp only [eqNL] at h
    split at h
    · rename_i e; rw [beq_tt e, eqNL_eq h]
    · cases h
theorem eqCap_eq {a b : Option Nat} (h : eqCap a b = true) : a = b := by
  unfold eqCap at h
  split at h
  · rfl
  · rw [beq_tt h]
  · cases h
/-- The names of one state, as the other one has them. -/
def Rn (base : Nat) (ps : List (Nat × Nat)) (ι ι' : Io) : Prop := ∀ k q, nameR base ps k = some q → ι' k = ι q
section
variable {base : Nat} {ps : List (Nat × Nat)} {ι ι' : Io} {w : World}
theorem eqN_ok {k q : Nat} (h : eqN base ps k q = true) (hr : Rn base ps ι ι') : ι' k = ι q := by
  unfold eqN at h
  split at h
  · rename_i r e
    rw [hr k r e, beq_tt h]
  · cases h
theorem aggOf_VR {b : AV} {m : List AV} {v : Value} (h : aggOf b = some m) (hv : VR ι b v) : ∃ vs, v = .agg vs ∧ VRL ι m vs.toList := by
  unfold aggOf at h
  split at h
  · cases h
    rw [VR] at hv
    exact hv
  · rename_i y
    cases h
    rw [VR] at hv
    exact ⟨y, hv, VRL_mapV _⟩
  · cases h
theorem tupOf_VR {b : AV} {m : List AV} {v : Value} (h : tupOf b = some m) (hv : VR ι b v) : ∃ vs, v = .tuple vs ∧ VRL ι m vs.toList := by
  unfold tupOf at h
  split at h
  · cases h
    rw [VR] at hv
    exact hv
  · rename_i y
    cases h
    rw [VR] at hv
    exact ⟨y, hv, VRL_mapV _⟩
  · cases h
mutual
theorem leA_VR (hr : Rn base ps ι ι') : ∀ (a b : AV) (v : Value), leA base ps a b = true → VR ι b v → VR ι' a v
  | .top, b, v, h, hv => by
    simp only [leA] at h
    rw [VR]
    exact oneCell_VR hv h
  | .v x, b, v, h, hv => by
    simp only [leA] at h
    unfold leVal at h
    split at h
    · rename_i y
      rw [VR] at hv ⊢
      rw [hv, eqV_eq h]
    · cases h
  | .ptr k o, b, v, h, hv => by
    simp only [leA] at h
    unfold lePtr at h
    split at h
    · rw [Bool.and_eq_true] at h
      rw [VR] at hv ⊢
      obtain ⟨c, rfl, hk⟩ := hv
      exact ⟨c, by rw [beq_tt h.2], by rw [eqN_ok h.1 hr]; exact hk⟩
    · cases h
  | .sl k o l c z, b, v, h, hv => by
    simp only [leA] at h
    unfold leSl at h
    split at h
    · simp only [Bool.and_eq_true] at h
      obtain ⟨h1, h2, h3, h4, h5⟩ := h
      rw [VR] at hv ⊢
      obtain ⟨d, e, rfl, q1, q2, q3⟩ := hv
      have e1 := beq_tt h2
      have e2 := beq_tt h3
      have e3 := eqCap_eq h4
      have e4 := beq_tt h5
      subst e1 e2 e3 e4
      exact ⟨d, e, rfl, q1, q2, by rw [eqN_ok h1 hr]; exact q3⟩
    · cases h
  | .agg l, b, v, h, hv => by
    simp only [leA] at h
    split at h
    · rename_i m hm
      obtain ⟨vs, rfl, hl⟩ := aggOf_VR hm hv
      rw [VR]
      exact ⟨vs, rfl, leL_VRL hr l _ _ h hl⟩
    · cases h
  | .tup l, b, v, h, hv => by
    simp only [leA] at h
    split at h
    · rename_i m hm
      obtain ⟨vs, rfl, hl⟩ := tupOf_VR hm hv
      rw [VR]
      exact ⟨vs, rfl, leL_VRL hr l _ _ h hl⟩
    · cases h
  | .es, b, v, h, hv => by
    simp only [leA] at h
    unfold isEs at h
    split at h
    · rw [VR] at hv ⊢
      exact hv
    · cases h
  | .mr k, b, v, h, hv => by
    simp only [leA] at h
    unfold leMr at h
    split at h
    · rw [VR] at hv ⊢
      obtain ⟨c, rfl, hk⟩ := hv
      exact ⟨c, rfl, by rw [eqN_ok h hr]; exact hk⟩
    · cases h
  | .fn _ _ _, b, v, h, hv => by simp [leA] at h
  | .yl _, b, v, h, hv => by simp [leA] at h
  | .lp _ _ _ _ _ _ _, b, v, h, hv => by simp [leA] at h
  | .df _, b, v, h, hv => by simp [leA] at h
  | .ded, b, v, h, hv => by simp [leA] at h
  | .mp _ _ _, b, v, h, hv => by simp [leA] at h
  | .mi _ _ _ _, b, v, h, hv => by simp [leA] at h
  | .m0, b, v, h, hv => by simp [leA] at h
theorem leL_VRL (hr : Rn base ps ι ι') : ∀ (l m : List AV) (vs : List Value), leL base ps l m = true → VRL ι m vs → VRL ι' l vs
  | [], m, vs, h, hv => by
    simp only [leL] at h
    have := List.isEmpty_iff.1 h
    subst this
    rw [VRL] at hv ⊢
    exact hv
  | a :: l, m, vs, h, hv => by
    simp only [leL] at h
    split at h
    · cases h
    · split at h
      · rename_i hab
        rw [VRL] at hv ⊢
        obtain ⟨v, us, rfl, h1, h2⟩ := hv
        exact ⟨v, us, rfl, leA_VR hr a _ v hab h1, leL_VRL hr l _ us h h2⟩
      · cases h
end
theorem leL_get : ∀ {l m : List AV}, leL base ps l m = true → l.length = m.length ∧ ∀ (i : Nat) (a : AV), l[i]? = some a → ∃ b, m[i]? = some b ∧ leA base ps a b = true
  | [], m, h => by
    simp only [leL] at h
    have := List.isEmpty_iff.1 h
    subst this
    exact ⟨rfl, fun i a ha => by simp at ha⟩
  | a :: l, m, h => by
    simp only [leL] at h
    split at h
    · cases h
    · rename_i b m
      split at h
      · rename_i hab
        obtain ⟨h1, h2⟩ := leL_get h
        refine ⟨by simp [h1], fun i x hx => ?_⟩
        cases i with
        | zero => simp at hx; subst hx; exact ⟨b, by simp, hab⟩
        | succ i => obtain ⟨y, hy, e⟩ := h2 i x (by simpa using hx); exact ⟨y, by simpa using hy, e⟩
      · cases h
theorem takeM_some {k : Value} : ∀ {xs : List Value} {bs : List AV} {b : AV} {xs' : List Value} {bs' : List AV} {l : List MapEntry}, takeM k xs bs = some (b, xs', bs') → l.map (·.key) = xs → VRL ι bs (l.map (·.val)) →
    ∃ A e B, l = A ++ e :: B ∧ e.key = k ∧ VR ι b e.val ∧ (A ++ B).map (·.key) = xs' ∧ VRL ι bs' ((A ++ B).map (·.val))
  | [], bs, b, xs', bs', l, h, _, _ => by cases bs <;> simp [takeM] at h
  | x :: xs, [], b, xs', bs', l, h, _, _ => by simp [takeM] at h
  | x :: xs, a :: bs, b, xs', bs', l, h, hk, hv => by
    obtain ⟨e, l, rfl, rfl, hk2⟩ := List.map_eq_cons_iff.1 hk
    rw [List.map_cons, VRL] at hv
    obtain ⟨v, us, e1, h1, h2⟩ := hv
    cases e1
    simp only [takeM] at h
    split at h
    · rename_i hx
      cases h
      exact ⟨[], e, l, rfl, (eqV0_eq hx).symm, h1, hk2, h2⟩
    · split at h
      · rename_i c ys cs hrec
        cases h
        obtain ⟨A, f, B, rfl, q1, q2, q3, q4⟩ := takeM_some hrec hk2 h2
        refine ⟨e :: A, f, B, rfl, q1, q2, by rw [List.cons_append, List.map_cons, q3], ?_⟩
        rw [List.cons_append, List.map_cons, VRL]
        exact ⟨_, _, rfl, h1, q4⟩
      · cases h
theorem leM_perm (hr : Rn base ps ι ι') : ∀ {ks : List Value} {vs : List AV} {ks' : List Value} {vs' : List AV} {l' : List MapEntry}, leM base ps ks vs ks' vs' = true → l'.map (·.key) = ks' → VRL ι vs' (l'.map (·.val)) →
    ∃ l : List MapEntry, l.Perm l' ∧ l.map (·.key) = ks ∧ VRL ι' vs (l.map (·.val))
  | [], [], [], [], l', h, hk, hv => by
    have := List.map_eq_nil_iff.1 hk
    subst this
    exact ⟨[], .refl _, rfl, by rw [List.map_nil, VRL]⟩
  | [], [], [], _ :: _, l', h, hk, hv => by simp [leM] at h
  | [], [], _ :: _, _, l', h, hk, hv => by simp [leM] at h
  | [], _ :: _, _, _, l', h, hk, hv => by simp [leM] at h
  | _ :: _, [], _, _, l', h, hk, hv => by simp [leM] at h
  | k :: ks, a :: vs, ks', vs', l', h, hk, hv => by
    simp only [leM] at h
    split at h
    · rename_i b xs bs ht
      split at h
      · rename_i hab
        obtain ⟨A, e, B, rfl, q1, q2, q3, q4⟩ := takeM_some ht hk hv
        obtain ⟨l, r1, r2, r3⟩ := leM_perm hr h q3 q4
        refine ⟨e :: l, (r1.cons e).trans List.perm_middle.symm, by rw [List.map_cons, q1, r2], ?_⟩
        rw [List.map_cons, VRL]
        exact ⟨_, _, rfl, leA_VR hr _ _ _ hab q2, r3⟩
      · cases h
    · cases h
theorem leRow_BX (hr : Rn base ps ι ι') {r r2 : Row} {b m : Nat} (h : leRow base ps r r2 = true) (hb : BX ι r2 w b m) : BX ι' r w b m := by
  unfold leRow at h
  split at h
  · rename_i ty ex n p t ty' ex' n' p' t'
    simp only [Bool.and_eq_true, decide_eq_true_eq] at h
    obtain ⟨h1, rfl, h3, h4⟩ := h
    have e1 := beq_tt h1
    have e3 := beq_tt h3
    subst e1 e3
    obtain ⟨c, T, fr, q1, q2, q3, q4, q5, q6⟩ := (show BR ι ty ex (Row.cells ty ex n p' t').toL w b m from hb)
    refine (show BR ι' ty ex (Row.cells ty ex n p t).toL w b m from ⟨c, T, fr, q1, q2, fun i a ha => ?_, q4, q5, fun e => ?_⟩)
    · have hi : i < n := by have := (List.getElem?_eq_some_iff.1 ha).1; rwa [toL_len] at this
      rw [toL_get hi] at ha
      cases ha
      obtain ⟨x, hx1, hx2⟩ := (leL_get h4).2 i (cellAt p t i) (by have := cellsFrom_get p t n 0 i hi; rwa [Nat.zero_add] at this)
      rw [cellsFrom_get p' t' n 0 i hi, Nat.zero_add] at hx1
      cases hx1
      obtain ⟨v, hv1, hv2⟩ := q3 i (cellAt p' t' i) (toL_get hi)
      exact ⟨v, hv1, leA_VR hr _ _ _ hx2 hv2⟩
    · rw [q6 e, toL_len, toL_len]
  · obtain ⟨es, clock, l, q1, q2, q3, q4, q5, q6⟩ := (show BS ι w b (.mp _ _ _) from hb)
    obtain ⟨l2, r1, r2, r3⟩ := leM_perm hr h q3 q4
    exact (show BS ι' w b (.mp _ _ _) from ⟨es, clock, l2, q1, r1.trans q2, r2, r3, fun bl c e => (by cases e), ((r1.map _).nodup_iff).2 q6.1, fun x hx => q6.2 x (r1.mem_iff.1 hx)⟩)
  · simp only [Bool.and_eq_true] at h
    obtain ⟨h1, h2, h3, h4⟩ := h
    obtain ⟨es, clock, l, q1, q2, q3, q4, q5, q6⟩ := (show BS ι w b (.mp _ _ _) from hb)
    refine (show BS ι' w b (.mp _ _ _) from ⟨es, clock, l, q1, q2, by rw [q3, eqVL_eq h1], leL_VRL hr _ _ _ h4 q4, fun bl c e => ?_, q6⟩)
    cases e
    obtain ⟨s1, s2⟩ := q5 _ _ rfl
    rw [eqNL_eq h2, beq_tt h3]
    exact ⟨s1, s2⟩
  · cases h
end
/-! ### Each order -/
theorem semAt_next {ρ : Operand → Value} {ro : Option Nat} {o : Oper} {x : Operand} (h : o.op = .next x false) : Oper.semAt (FW ro).round ρ o = execOp ρ o := by
  cases ro with
  | none => rfl
  | some l => exact Oper.semAt_some l ρ o (fun c e => by rw [h] at e; cases e)
theorem nextHead_some {ops os : List Oper} {x : Operand} {d : Tmp} (h : nextHead ops = some (x, d, os)) : ∃ o, ops = o :: os ∧ o.op = .next x false ∧ o.dst = some d ∧ o.guard = none := by
  unfold nextHead at h
  split at h
  · cases h
  · rename_i o os'
    split at h
    · rename_i x' str d' h1 h2 h3
      split at h
      · cases h
        exact ⟨o, rfl, h1, h2, h3⟩
      · cases h
    · cases h
abbrev Res := Ex × T AV × List Nat × G
section
variable {P : Program} {call : Cl → List AV → G → Option (AV × G)} {Nt lf : Nat}
/-- An evaluation with all its ends is the model's: one of them is the run's. -/
def BodyS (P : Program) (Nt : Nat) (ev : T AV → List Nat → G → Option (List Res)) (wpc : (Exit → Act → World → Prop) → Act → World → Prop) : Prop :=
  ∀ tm mk g rs, ev tm mk g = some rs → rs ≠ [] ∧ (∀ r ∈ rs, Mono g r.2.2.2) ∧ ∀ N F w0 ι ds a w Q, (∀ r ∈ rs, r.2.2.2.n ≤ N) → (∀ r ∈ rs, FOK F r.2.2.2) → TR ι Nt ds tm a → MK ι mk ds → Sat N F g ι w0 w → g.thr ≤ g.n →
    (∀ r ∈ rs, ∀ ι' ds' a' w', TR ι' Nt ds' r.2.1 a' → MK ι' r.2.2.1 ds' → Step g r.2.2.2 ι ι' w w' → Sat N F r.2.2.2 ι' w0 w' → Q r.1.to a' w') → wpc Q a w
theorem one_ok {ev : T AV → List Nat → G → Option Res} {wpc : (Exit → Act → World → Prop) → Act → World → Prop} (h : BodyOK P Nt ev wpc) : BodyS P Nt (fun tm mk g => one (ev tm mk g)) wpc := by
  intro tm mk g rs hrs
  dsimp only at hrs
  unfold one at hrs
  split at hrs
  · rename_i r hr
    cases hrs
    obtain ⟨e, tm', mk', g'⟩ := r
    obtain ⟨m1, h1⟩ := h _ _ _ _ _ _ _ hr
    refine ⟨by simp, fun r hr => by rw [List.mem_singleton.1 hr]; exact m1, fun N F w0 ι ds a w Q hN hF ht hk hs hthr hQ => ?_⟩
    exact h1 N F w0 ι ds a w Q (hN _ (List.mem_singleton.2 rfl)) (hF _ (List.mem_singleton.2 rfl)) ht hk hs hthr (hQ _ (List.mem_singleton.2 rfl))
  · cases hrs
theorem evNR_mem {ops os : List Oper} {d : Tmp} {tm : T AV} {mk : List Nat} : ∀ {rs : List (AV × G)} {l : List Res}, evNR P call Nt ops os d tm mk rs = some l →
    (∀ r ∈ rs, ∃ tm1 tm2 g2, putT Nt tm (some d) r.1 = some tm1 ∧ evOps P call Nt ops os tm1 r.2 = some (tm2, g2) ∧ (Ex.normal, tm2, mk, g2) ∈ l) ∧
    ∀ x ∈ l, ∃ r ∈ rs, ∃ tm1, putT Nt tm (some d) r.1 = some tm1 ∧ evOps P call Nt ops os tm1 r.2 = some (x.2.1, x.2.2.2)
  | [], l, h => by
    simp [evNR] at h
    subst h
    exact ⟨fun r hr => (by cases hr), fun x hx => (by cases hx)⟩
  | (a, g) :: rs, l, h => by
    simp only [evNR] at h
    split at h
    · rename_i tm1 h1
      split at h
      · rename_i tm2 g2 l' h2 h3
        cases h
        obtain ⟨q1, q2⟩ := evNR_mem h3
        refine ⟨fun r hr => ?_, fun x hx => ?_⟩
        · rcases List.mem_cons.1 hr with rfl | hr
          · exact ⟨tm1, tm2, g2, h1, h2, by simp⟩
          · obtain ⟨t1, t2, g3, e1, e2, e3⟩ := q1 r hr
            exact ⟨t1, t2, g3, e1, e2, by simp [e3]⟩
        · rcases List.mem_cons.1 hx with rfl | hx
          · exact ⟨(a, g), by simp, tm1, h1, h2⟩
          · obtain ⟨r, hr, e⟩ := q2 x hx
            exact ⟨r, by simp [hr], e⟩
      · cases h
    · cases h
theorem seqN_mem {f : T AV → List Nat → G → Option (List Res)} : ∀ {rs l : List Res}, seqN f rs = some l →
    (∀ r ∈ rs, (∃ xs, r.1 = .normal ∧ f r.2.1 r.2.2.1 r.2.2.2 = some xs ∧ ∀ x ∈ xs, x ∈ l) ∨ (r.1 ≠ .normal ∧ r ∈ l)) ∧
    ∀ x ∈ l, (∃ r ∈ rs, ∃ xs, r.1 = .normal ∧ f r.2.1 r.2.2.1 r.2.2.2 = some xs ∧ x ∈ xs) ∨ x ∈ rs
  | [], l, h => by
    simp [seqN] at h
    subst h
    exact ⟨fun r hr => (by cases hr), fun x hx => (by cases hx)⟩
  | (e, tm, mk, g) :: rs, l, h => by
    simp only [seqN] at h
    split at h
    · split at h
      · rename_i xs ys h1 h2
        have hl := appL_some _ _ _ h
        subst hl
        obtain ⟨q1, q2⟩ := seqN_mem h2
        refine ⟨fun r hr => ?_, fun x hx => ?_⟩
        · rcases List.mem_cons.1 hr with rfl | hr
          · exact .inl ⟨xs, rfl, h1, fun x hx => by simp [hx]⟩
          · rcases q1 r hr with ⟨zs, e1, e2, e3⟩ | ⟨e1, e2⟩
            · exact .inl ⟨zs, e1, e2, fun x hx => by simp [e3 x hx]⟩
            · exact .inr ⟨e1, by simp [e2]⟩
        · rcases List.mem_append.1 hx with hx | hx
          · exact .inl ⟨_, List.mem_cons_self, xs, rfl, h1, hx⟩
          · rcases q2 x hx with ⟨r, hr, zs, e1, e2, e3⟩ | e1
            · exact .inl ⟨r, by simp [hr], zs, e1, e2, e3⟩
            · exact .inr (by simp [e1])
      · cases h
    · rename_i hne
      split at h
      · rename_i ys h2
        cases h
        obtain ⟨q1, q2⟩ := seqN_mem h2
        refine ⟨fun r hr => ?_, fun x hx => ?_⟩
        · rcases List.mem_cons.1 hr with rfl | hr
          · exact .inr ⟨fun e => hne e, by simp⟩
          · rcases q1 r hr with ⟨zs, e1, e2, e3⟩ | ⟨e1, e2⟩
            · exact .inl ⟨zs, e1, e2, fun x hx => by simp [e3 x hx]⟩
            · exact .inr ⟨e1, by simp [e2]⟩
        · rcases List.mem_cons.1 hx with rfl | hx
          · exact .inr (by simp)
          · rcases q2 x hx with ⟨r, hr, zs, e1, e2, e3⟩ | e1
            · exact .inl ⟨r, by simp [hr], zs, e1, e2, e3⟩
            · exact .inr (by simp [e1])
      · cases h
theorem nexts_ne {x : AV} {g : G} {rs : List (AV × G)} (h : evNexts x g = some rs) : rs ≠ [] := by
  unfold evNexts at h
  split at h
  · split at h
    · cases h; simp
    · split at h
      · split at h
        · cases h; simp
        · rename_i js hne hst
          obtain ⟨j, hj⟩ := List.exists_mem_of_ne_nil js (fun e => hne e)
          obtain ⟨x, hx, _⟩ := many_mem h j hj
          exact List.ne_nil_of_mem hx
        · cases h
      · cases h
    · cases h
  · cases h
theorem evN_ok (hng : noNumG P = true) (hm : P.follows .mixedOrders = true) (hc : CallOK P call) (lf : Nat) : ∀ c : Code, BodyS P Nt (evN P call Nt lf c) fun Q a w => c.wpIn (FW none) 0 P Q a w
  | .region id ops draw, tm, mk, g, rs, h => by
    simp only [evN] at h
    split at h
    · rename_i x d os hd
      split at h
      · rename_i ns hns
        obtain ⟨o, hops, ho, hod, hog⟩ := nextHead_some hd
        obtain ⟨q1, q2⟩ := evNR_mem h
        refine ⟨fun e => ?_, fun r hr => ?_, fun N F w0 ι ds a w Q hN hF ht hk hs hthr hQ => ?_⟩
        · obtain ⟨s, hs⟩ := List.exists_mem_of_ne_nil _ (nexts_ne hns)
          obtain ⟨_, _, _, _, _, e3⟩ := q1 s hs
          rw [e] at e3
          cases e3
        · obtain ⟨s, hs, tm1, e1, e2⟩ := q2 r hr
          exact (Mono.nextsAll hns s hs).tr (evOps_mono hc os e2)
        refine wpIn_region ?_
        have hFn : ∀ s ∈ ns, FOK F s.2 := fun s hs => by
          obtain ⟨tm1, tm2, g2, e1, e2, e3⟩ := q1 s hs
          exact (evOps_mono hc os e2).fok (hF _ e3)
        have hu : UR ι ops.toList o tm a := ht.uses
        obtain ⟨s, hs1, ι1, v, w1, hrun, hv, st, sat⟩ := nexts_ok (P := P) (ty := o.type) hns (hu.use x (by rw [ho]; simp [useOf])) hFn hs
        obtain ⟨tm1, tm2, g2, e1, e2, e3⟩ := q1 s hs1
        have hw : Region.wanted o (yielded ops.toList.toArray a.tmps) = true := wanted_ok (show wantedA ops.toList tm o = some true by simp [wantedA, hog]) hu
        have key : wpOpsIn (FW none) 0 P ops.toList.toArray Q (List.range' 0 (o :: os).length) a w := by
          rw [List.length_cons, List.range'_succ, wpOpsIn_cons]
          unfold wpOpIn
          rw [show ops.toList.toArray[0]? = some o by rw [hops]; rfl]
          dsimp only
          rw [if_pos hw]
          refine ⟨fun _ _ => trivial, ?_⟩
          rw [semAt_next ho]
          have hrun2 : (execOp a.eval o).run P w = .ok (.value v) w1 := by
            simp only [execOp, ho]
            simp only [Sem.run_bind, hrun, Result.andThen_ok, Sem.run_pure]
          rw [hrun2]
          refine evOps_ok (ro := none) (ds := ds) (Q := Q) hng hc (hN _ e3) (hF _ e3) os 1 (fun j => by rw [hops, Nat.add_comm]; rfl) e2 ((ht.mono st.le).put hv (by rw [hod]; exact e1)) sat (by rw [st.thr]; exact Nat.le_trans hthr st.n) fun ι' a' w' t' st2 sat2 => ?_
          exact hQ _ e3 ι' ds a' w' t' (hk.mono (st.trans st2).le) (st.trans st2) sat2
        have hlen : (o :: os).length = ops.size := by rw [← hops]; simp
        rw [hlen, ← List.range_eq_range'] at key
        simpa using key
      · cases h
    · exact one_ok (code_ok hng hm hc lf none _) tm mk g rs h
  | .seq x y, tm, mk, g, rs, h => by
    simp only [evN] at h
    split at h
    · rename_i rs1 h1
      obtain ⟨n1, m1, k1⟩ := evN_ok hng hm hc lf x _ _ _ _ h1
      obtain ⟨q1, q2⟩ := seqN_mem h
      refine ⟨fun e => ?_, fun r hr => ?_, fun N F w0 ι ds a w Q hN hF ht hk hs hthr hQ => ?_⟩
      · obtain ⟨s, hs⟩ := List.exists_mem_of_ne_nil _ n1
        rcases q1 s hs with ⟨xs, e1, e2, e3⟩ | ⟨e1, e2⟩
        · obtain ⟨r, hr⟩ := List.exists_mem_of_ne_nil _ (evN_ok hng hm hc lf y _ _ _ _ e2).1
          have := e3 r hr
          rw [e] at this
          cases this
        · rw [e] at e2
          cases e2
      · rcases q2 r hr with ⟨s, hs, xs, e1, e2, e3⟩ | e1
        · exact (m1 s hs).tr ((evN_ok hng hm hc lf y _ _ _ _ e2).2.1 r e3)
        · exact m1 r e1
      have up : ∀ s ∈ rs1, s.2.2.2.n ≤ N ∧ FOK F s.2.2.2 := fun s hs => by
        rcases q1 s hs with ⟨xs, e1, e2, e3⟩ | ⟨e1, e2⟩
        · obtain ⟨n2, m2, k2⟩ := evN_ok hng hm hc lf y _ _ _ _ e2
          obtain ⟨r, hr⟩ := List.exists_mem_of_ne_nil _ n2
          exact ⟨Nat.le_trans (m2 r hr).n (hN r (e3 r hr)), (m2 r hr).fok (hF r (e3 r hr))⟩
        · exact ⟨hN s e2, hF s e2⟩
      refine wpIn_seq (k1 N F w0 ι ds a w _ (fun s hs => (up s hs).1) (fun s hs => (up s hs).2) ht hk hs hthr fun s hs ι' ds' a' w' ht' hk' st sat => ?_)
      rcases q1 s hs with ⟨xs, e1, e2, e3⟩ | ⟨e1, e2⟩
      · obtain ⟨n2, m2, k2⟩ := evN_ok hng hm hc lf y _ _ _ _ e2
        rw [e1]
        refine k2 N F w0 ι' ds' a' w' Q (fun r hr => hN r (e3 r hr)) (fun r hr => hF r (e3 r hr)) ht' hk' sat (by rw [(m1 s hs).thr]; exact Nat.le_trans hthr (m1 s hs).n) fun r hr ι2 ds2 a2 w2 t2 k2 st2 sat2 => ?_
        exact hQ r (e3 r hr) ι2 ds2 a2 w2 t2 k2 (st.trans st2) sat2
      · have := hQ s e2 ι' ds' a' w' ht' hk' st sat
        cases he : s.1 with
        | normal => exact absurd he e1
        | exit id => rw [he] at this; exact this
        | ret => rw [he] at this; exact this
    · cases h
  | .skip, tm, mk, g, rs, h => one_ok (code_ok hng hm hc lf none .skip) tm mk g rs h
  | .label l, tm, mk, g, rs, h => one_ok (code_ok hng hm hc lf none (.label l)) tm mk g rs h
  | .cond c x y, tm, mk, g, rs, h => one_ok (code_ok hng hm hc lf none (.cond c x y)) tm mk g rs h
  | .block id c, tm, mk, g, rs, h => one_ok (code_ok hng hm hc lf none (.block id c)) tm mk g rs h
  | .loop c, tm, mk, g, rs, h => one_ok (code_ok hng hm hc lf none (.loop c)) tm mk g rs h
  | .exit id, tm, mk, g, rs, h => one_ok (code_ok hng hm hc lf none (.exit id)) tm mk g rs h
  | .scope c, tm, mk, g, rs, h => one_ok (code_ok hng hm hc lf none (.scope c)) tm mk g rs h
  | .ret, tm, mk, g, rs, h => one_ok (code_ok hng hm hc lf none .ret) tm mk g rs h
  | .rangeFunc f ps asg bd, tm, mk, g, rs, h => one_ok (code_ok hng hm hc lf none (.rangeFunc f ps asg bd)) tm mk g rs h
  | .goto l, tm, mk, g, rs, h => one_ok (code_ok hng hm hc lf none (.goto l)) tm mk g rs h
  | .refuse s, tm, mk, g, rs, h => one_ok (code_ok hng hm hc lf none (.refuse s)) tm mk g rs h
theorem collect_mem {id : Nat} {mk bn : List Nat} {f : T AV → G → List Nat → Option (List Pth)} : ∀ {rs : List Res} {ps : List Pth}, collect id mk bn f rs = some ps →
    (∀ r ∈ rs, r.2.2.1 = mk ∧ ((r.1 = .normal ∧ ∃ bn1 xs, f r.2.1 r.2.2.2 bn1 = some xs ∧ ∀ x ∈ xs, x ∈ ps) ∨ (r.1 = .exit id ∧ ⟨r.2.1, r.2.2.2, bn⟩ ∈ ps))) ∧
    ∀ p ∈ ps, ∃ r ∈ rs, (∃ bn1 xs, f r.2.1 r.2.2.2 bn1 = some xs ∧ p ∈ xs) ∨ p = ⟨r.2.1, r.2.2.2, bn⟩
  | [], ps, h => by
    simp [collect] at h
    subst h
    exact ⟨fun r hr => (by cases hr), fun x hx => (by cases hx)⟩
  | (e, tm, mk', g) :: rs, ps, h => by
    simp only [collect] at h
    split at h
    · cases h
    · rename_i hmk
      have hmk := (eqNL_eq hmk).symm
      split at h
      · split at h
        · rename_i bn1 hb
          split at h
          · rename_i xs ys h1 h2
            have hl := appL_some _ _ _ h
            subst hl
            obtain ⟨q1, q2⟩ := collect_mem h2
            refine ⟨fun r hr => ?_, fun p hp => ?_⟩
            · rcases List.mem_cons.1 hr with rfl | hr
              · exact ⟨hmk, .inl ⟨rfl, bn1, xs, h1, fun x hx => by simp [hx]⟩⟩
              · obtain ⟨e0, e1⟩ := q1 r hr
                refine ⟨e0, ?_⟩
                rcases e1 with ⟨e1, b2, zs, e2, e3⟩ | ⟨e1, e2⟩
                · exact .inl ⟨e1, b2, zs, e2, fun x hx => by simp [e3 x hx]⟩
                · exact .inr ⟨e1, by simp [e2]⟩
            · rcases List.mem_append.1 hp with hp | hp
              · exact ⟨_, List.mem_cons_self, .inl ⟨bn1, xs, h1, hp⟩⟩
              · obtain ⟨r, hr, e1⟩ := q2 p hp
                exact ⟨r, by simp [hr], e1⟩
          · cases h
        · cases h
      · rename_i id'
        split at h
        · rename_i ys hid h2
          cases h
          have hid := beq_tt hid
          subst hid
          obtain ⟨q1, q2⟩ := collect_mem h2
          refine ⟨fun r hr => ?_, fun p hp => ?_⟩
          · rcases List.mem_cons.1 hr with rfl | hr
            · exact ⟨hmk, .inr ⟨rfl, by simp⟩⟩
            · obtain ⟨e0, e1⟩ := q1 r hr
              refine ⟨e0, ?_⟩
              rcases e1 with ⟨e1, b2, zs, e2, e3⟩ | ⟨e1, e2⟩
              · exact .inl ⟨e1, b2, zs, e2, fun x hx => by simp [e3 x hx]⟩
              · exact .inr ⟨e1, by simp [e2]⟩
          · rcases List.mem_cons.1 hp with rfl | hp
            · exact ⟨_, List.mem_cons_self, .inr rfl⟩
            · obtain ⟨r, hr, e1⟩ := q2 p hp
              exact ⟨r, by simp [hr], e1⟩
        · cases h
      · cases h
theorem loopN_ok (hng : noNumG P = true) (hm : P.follows .mixedOrders = true) (hc : CallOK P call) {id : Nat} {b : Code} {mk : List Nat} : ∀ (n : Nat) {tm : T AV} {g : G} {bn : List Nat} {ps : List Pth}, loopN P call Nt lf id b mk n tm g bn = some ps →
    ps ≠ [] ∧ (∀ p ∈ ps, Mono g p.g) ∧ ∀ N F w0 ι ds a w Q, (∀ p ∈ ps, p.g.n ≤ N) → (∀ p ∈ ps, FOK F p.g) → TR ι Nt ds tm a → MK ι mk ds → Sat N F g ι w0 w → g.thr ≤ g.n →
      (∀ p ∈ ps, ∀ ι' ds' a' w', TR ι' Nt ds' p.tm a' → MK ι' mk ds' → Step g p.g ι ι' w w' → Sat N F p.g ι' w0 w' → Q (.exit id) a' w') → Code.roundsIn (FW none) 0 P b Q n a w
  | 0, tm, g, bn, ps, h => by simp [loopN] at h
  | n + 1, tm, g, bn, ps, h => by
    simp only [loopN] at h
    split at h
    · rename_i rs h1
      obtain ⟨n1, m1, k1⟩ := evN_ok hng hm hc lf b _ _ _ _ h1
      obtain ⟨q1, q2⟩ := collect_mem h
      have up : ∀ r ∈ rs, ∃ p ∈ ps, Mono r.2.2.2 p.g := fun r hr => by
        obtain ⟨_, e1⟩ := q1 r hr
        rcases e1 with ⟨e1, b2, zs, e2, e3⟩ | ⟨e1, e2⟩
        · obtain ⟨n2, m2, k2⟩ := loopN_ok hng hm hc n e2
          obtain ⟨p, hp⟩ := List.exists_mem_of_ne_nil _ n2
          exact ⟨p, e3 p hp, m2 p hp⟩
        · exact ⟨_, e2, Mono.refl _⟩
      refine ⟨fun e => ?_, fun p hp => ?_, fun N F w0 ι ds a w Q hN hF ht hk hs hthr hQ => ?_⟩
      · obtain ⟨r, hr⟩ := List.exists_mem_of_ne_nil _ n1
        obtain ⟨p, hp, _⟩ := up r hr
        rw [e] at hp
        cases hp
      · obtain ⟨r, hr, e1⟩ := q2 p hp
        rcases e1 with ⟨b2, zs, e2, e3⟩ | e1
        · exact (m1 r hr).tr ((loopN_ok hng hm hc n e2).2.1 p e3)
        · rw [e1]; exact m1 r hr
      rw [roundsIn_succ]
      refine k1 N F w0 ι ds a w _ (fun r hr => by obtain ⟨p, hp, hm⟩ := up r hr; exact Nat.le_trans hm.n (hN p hp)) (fun r hr => by obtain ⟨p, hp, hm⟩ := up r hr; exact hm.fok (hF p hp)) ht hk hs hthr fun r hr ι' ds' a' w' ht' hk' st sat => ?_
      obtain ⟨e0, e1⟩ := q1 r hr
      rw [e0] at hk'
      rcases e1 with ⟨e1, b2, zs, e2, e3⟩ | ⟨e1, e2⟩
      · rw [e1]
        obtain ⟨n2, m2, k2⟩ := loopN_ok hng hm hc n e2
        exact k2 N F w0 ι' ds' a' w' Q (fun p hp => hN p (e3 p hp)) (fun p hp => hF p (e3 p hp)) ht' hk' sat (by rw [(m1 r hr).thr]; exact Nat.le_trans hthr (m1 r hr).n) fun p hp ι2 ds2 a2 w2 t2 kk2 st2 sat2 => hQ p (e3 p hp) ι2 ds2 a2 w2 t2 kk2 (st.trans st2) sat2
      · rw [e1]
        exact hQ _ e2 ι' ds' a' w' ht' hk' st sat
    · cases h
/-! ### What is told of the loop's end -/
theorem assocN_mem {k q : Nat} : ∀ {ps : List (Nat × Nat)}, assocN k ps = some q → k ∈ fsts ps ∧ q ∈ snds ps
  | [], h => by simp [assocN] at h
  | (a, b) :: ps, h => by
    simp only [assocN] at h
    split at h
    · rename_i e
      cases h
      simp [fsts, snds, beq_tt e]
    · obtain ⟨h1, h2⟩ := assocN_mem h
      simp [fsts, snds, h1, h2]
theorem assocN_inj {k j q : Nat} : ∀ {ps : List (Nat × Nat)}, noDup (snds ps) = true → assocN k ps = some q → assocN j ps = some q → k = j
  | [], _, h, _ => by simp [assocN] at h
  | (a, b) :: ps, hd, h1, h2 => by
    simp only [snds, noDup] at hd
    split at hd
    · cases hd
    · rename_i hb
      have hb : b ∉ snds ps := fun e => by rw [memS_iff.2 e] at hb; cases hb
      simp only [assocN] at h1 h2
      split at h1
      · rename_i e1
        split at h2
        · rename_i e2
          rw [← beq_tt e1, ← beq_tt e2]
        · cases h1
          exact absurd (assocN_mem h2).2 hb
      · split at h2
        · cases h2
          exact absurd (assocN_mem h1).2 hb
        · exact assocN_inj hd h1 h2
theorem inN_all {lo hi : Nat} : ∀ {l : List Nat}, inN lo hi l = true → ∀ k ∈ l, lo ≤ k ∧ k < hi
  | [], _, k, hk => by cases hk
  | x :: l, h, k, hk => by
    simp only [inN] at h
    split at h
    · rename_i h1 h2
      rcases List.mem_cons.1 hk with rfl | hk
      · exact ⟨Nat.le_of_ble_eq_true h1, by simpa [Nat.blt_eq] using h2⟩
      · exact inN_all h k hk
    · cases h
theorem subN_all {m : List Nat} : ∀ {l : List Nat}, subN l m = true → ∀ k ∈ l, k ∈ m
  | [], _, k, hk => by cases hk
  | x :: l, h, k, hk => by
    simp only [subN] at h
    split at h
    · rename_i h1
      rcases List.mem_cons.1 hk with rfl | hk
      · exact memS_iff.1 h1
      · exact subN_all h k hk
    · cases h
theorem keysOK_all {base : Nat} {wrC : List Nat} : ∀ {us : List (Nat × Option Row)}, keysOK base wrC us = true → ∀ k ∈ keysU us, base ≤ k ∨ k ∈ wrC
  | [], _, k, hk => by cases hk
  | (x, o) :: us, h, k, hk => by
    simp only [keysOK] at h
    split at h
    · cases h
    · rename_i hne
      rcases List.mem_cons.1 hk with rfl | hk
      · cases e1 : Nat.ble base k with
        | true => exact .inl (Nat.le_of_ble_eq_true e1)
        | false => cases e2 : memN k wrC with
          | true => exact .inr (memS_iff.1 e2)
          | false => exact absurd e2 (hne e1)
      · exact keysOK_all h k hk
theorem setU_get : ∀ {us : List (Nat × Option Row)} {H H' : T Row}, setU H us = some H' → ∀ j, H'.get j = (match us.find? (fun x => x.1 == j) with
    | some x => x.2
    | none => H.get j)
  | [], H, H', h, j => by simp [setU] at h; subst h; rfl
  | (k, o) :: us, H, H', h, j => by
    simp only [setU] at h
    split at h
    · rename_i H1 h1
      rw [T.set_get _ _ _ _ _ h j, List.find?_cons]
      by_cases e : j = k
      · subst e; simp
      · rw [if_neg e, show ((k, o).1 == j) = false by simpa using fun e2 : k = j => e e2.symm]
        exact setU_get h1 j
    · cases h
theorem find_key {us : List (Nat × Option Row)} {j : Nat} {x : Nat × Option Row} (h : us.find? (fun x => x.1 == j) = some x) : x ∈ us ∧ x.1 = j := ⟨List.mem_of_find?_eq_some h, by simpa using List.find?_some h⟩
theorem keysU_mem : ∀ {us : List (Nat × Option Row)} {j : Nat}, j ∈ keysU us ↔ ∃ x ∈ us, x.1 = j
  | [], j => by simp [keysU]
  | (k, o) :: us, j => by simp [keysU, keysU_mem, eq_comm]
theorem rowsOK_all {base : Nat} {ps : List (Nat × Nat)} {H : T Row} : ∀ {us : List (Nat × Option Row)}, rowsOK base ps H us = true → ∀ k r, (k, some r) ∈ us → ∃ q r2, nameR base ps k = some q ∧ H.get q = some r2 ∧ leRow base ps r r2 = true
  | [], _, k, r, hk => by cases hk
  | (x, o) :: us, h, k, r, hk => by
    simp only [rowsOK] at h
    split at h
    · rcases List.mem_cons.1 hk with e | hk
      · cases e
      · exact rowsOK_all h k r hk
    · split at h
      · rename_i q hq
        split at h
        · rename_i r2 hr2
          split at h
          · rename_i hle
            rcases List.mem_cons.1 hk with e | hk
            · cases e; exact ⟨q, r2, hq, hr2, hle⟩
            · exact rowsOK_all h k r hk
          · cases h
        · cases h
      · cases h
theorem opndsT_get {tm : T AV} : ∀ (n t i : Nat), i < n → (opndsT tm t n)[i]? = some (opnd tm (.tmp (t + i)))
  | 0, t, i, h => by omega
  | n + 1, t, 0, h => by simp [opndsT]
  | n + 1, t, i + 1, h => by
    simp only [opndsT, List.getElem?_cons_succ]
    rw [opndsT_get n (t + 1) i (by omega), show t + 1 + i = t + (i + 1) by omega]
theorem opndsT_len {tm : T AV} : ∀ (n t : Nat), (opndsT tm t n).length = n
  | 0, t => rfl
  | n + 1, t => by simp [opndsT, opndsT_len n]
theorem MK_same {ι ι' : Io} : ∀ {mk : List Nat} {ds : List Deferred}, (∀ k ∈ mk, ι' k = ι k) → MK ι mk ds → MK ι' mk ds
  | [], ds, _, h => h
  | k :: ks, ds, he, h => by
    obtain ⟨D, ds2, e, h1, h2⟩ := h
    exact ⟨D, ds2, e, by rw [he k (by simp)]; exact h1, MK_same (fun j hj => he j (by simp [hj])) h2⟩
theorem cover_core {g gC gO : G} {H HC : T Row} {n thr nC : Nat} {rd wr rdC wrC : List Nat} {lC : List AV} {us : List (Nat × Option Row)} {p : Pth} {ps : List (Nat × Nat)} (hg : g = ⟨H, n, thr, rd, wr⟩) (hgC : gC = ⟨HC, nC, thr, below? thr rdC rd, below? thr wrC wr⟩)
    (hcov : covers n Nt nC lC us wrC p ps = true) (hkeys : keysOK n wrC us = true) (hH : setU H us = some HC) (hO : gO.n = n ∧ gO.thr = n) (hm : Mono gO p.g)
    {N : Nat} {F : Nat → Prop} {w0 : World} {ι : Io} {w : World} (hs : Sat N F g ι w0 w) (hF : FOK F gC) (hN : nC ≤ N) (hthr : thr ≤ n) {ι1 : Io} {w' : World} (st : Step gO p.g ι ι1 w w') (sat : Sat N F p.g ι1 w0 w') :
    ∃ ι', Rn n ps ι1 ι' ∧ (∀ k, k < n → ι' k = ι1 k) ∧ Step g gC ι ι' w w' ∧ Sat N F gC ι' w0 w' := by
  subst hg hgC
  unfold covers at hcov
  simp only [Bool.and_eq_true] at hcov
  obtain ⟨c1, c2, c3, c4, c5, c6, c7, c8⟩ := hcov
  have c1 := beq_tt c1
  have c3 := inN_all c3
  have c4 := inN_all c4
  have c7 := subN_all c7
  have c8 := subN_all c8
  have hkeys := keysOK_all hkeys
  have hthr1 : p.g.thr = n := hm.thr.trans hO.2
  have hn1 : n ≤ p.g.n := by have := hm.n; rw [hO.1] at this; exact this
  -- the names
  let ι' : Io := fun k => if k < n then ι1 k else match assocN k ps with
    | some q => ι1 q
    | none => if k < nC then .dead else ι1 k
  have i1 : ∀ k, k < n → ι' k = ι1 k := fun k h => by simp only [ι', if_pos h]
  have i2 : ∀ k q, n ≤ k → assocN k ps = some q → ι' k = ι1 q := fun k q h e => by simp only [ι', if_neg (show ¬ k < n by omega), e]
  have i3 : ∀ k, n ≤ k → assocN k ps = none → k < nC → ι' k = .dead := fun k h e h2 => by simp only [ι', if_neg (show ¬ k < n by omega), e, if_pos h2]
  have i4 : ∀ k, nC ≤ k → ι' k = ι1 k := fun k h => by
    have e : assocN k ps = none := by
      cases e : assocN k ps with
      | none => rfl
      | some q => have := (c3 k (assocN_mem e).1).2; omega
    simp only [ι', if_neg (show ¬ k < n by omega), e, if_neg (show ¬ k < nC by omega)]
  have i5 : ∀ k, (k < n ∧ ι' k = ι1 k) ∨ (n ≤ k ∧ k < nC ∧ ∃ q, assocN k ps = some q ∧ n ≤ q ∧ q < nC ∧ ι' k = ι1 q) ∨ (n ≤ k ∧ k < nC ∧ ι' k = .dead) ∨ (nC ≤ k ∧ ι' k = ι1 k) := fun k => by
    by_cases h : k < n
    · exact .inl ⟨h, i1 k h⟩
    · cases e : assocN k ps with
      | some q =>
        have h1 := c3 k (assocN_mem e).1
        have h2 := c4 q (assocN_mem e).2
        exact .inr (.inl ⟨by omega, h1.2, q, rfl, h2.1, h2.2, i2 k q (by omega) e⟩)
      | none =>
        by_cases h2 : k < nC
        · exact .inr (.inr (.inl ⟨by omega, h2, i3 k (by omega) e h2⟩))
        · exact .inr (.inr (.inr ⟨by omega, i4 k (by omega)⟩))
  have hRn : Rn n ps ι1 ι' := fun k q e => by
    unfold nameR at e
    split at e
    · rename_i h
      cases e
      exact i1 k (by simpa [Nat.blt_eq] using h)
    · rename_i h
      refine i2 k q ?_ e
      have := (c3 k (assocN_mem e).1).1
      exact this
  have hWr : ∀ k, Wr p.g k → k < n → Wr ⟨HC, nC, thr, below? thr rdC rd, below? thr wrC wr⟩ k := fun k h hk => by
    rcases h with h | h
    · by_cases e : k < thr
      · exact .inl (below?_mem.2 (.inr ⟨c8 k h, e⟩))
      · exact .inr (by show thr ≤ k; omega)
    · omega
  have hle : Le ι ι' := fun k => by
    rcases i5 k with ⟨h, e⟩ | ⟨h1, h2, q, _, _, _, e⟩ | ⟨h1, h2, e⟩ | ⟨h, e⟩
    · rcases st.le k with r | r | r
      · exact .inl r
      · exact .inr (.inl (e.trans r))
      · exact .inr (.inr (e.trans r))
    · exact .inl (hs.un k h1 (by omega))
    · exact .inr (.inr e)
    · rcases st.le k with r | r | r
      · exact .inl r
      · exact .inr (.inl (e.trans r))
      · exact .inr (.inr (e.trans r))
  have hget := setU_get hH
  have hold : ∀ k, k < n → ι' k = ι k ∨ (ι' k = .dead ∧ Wr ⟨HC, nC, thr, below? thr rdC rd, below? thr wrC wr⟩ k) := fun k h => by
    rw [i1 k h]
    rcases st.old k (by rw [hO.1]; exact h) with r | ⟨r, hw⟩
    · exact .inl r
    · exact .inr ⟨r, hWr k hw h⟩
  have hhabs : ∀ k, k < n → ¬ Wr ⟨HC, nC, thr, below? thr rdC rd, below? thr wrC wr⟩ k → HC.get k = H.get k := fun k h hw => by
    rw [hget k]
    split
    · rename_i x hx
      obtain ⟨hx1, hx2⟩ := find_key hx
      rcases hkeys k (keysU_mem.2 ⟨x, hx1, hx2⟩) with e | e
      · omega
      · exfalso
        refine hw ?_
        by_cases e2 : k < thr
        · exact .inl (below?_mem.2 (.inr ⟨e, e2⟩))
        · exact .inr (by show thr ≤ k; omega)
    · rfl
  have stC : Step ⟨H, n, thr, rd, wr⟩ ⟨HC, nC, thr, below? thr rdC rd, below? thr wrC wr⟩ ι ι' w w' := {
    n := by show n ≤ nC; omega
    thr := rfl
    rd := fun k hk => below?_mem.2 (.inl hk)
    wr := fun k hk => below?_mem.2 (.inl hk)
    le := hle
    old := hold
    far := fun k h => by rw [i4 k h]; exact st.far k (by rw [c1]; exact h)
    newb := fun k b m h1 h2 h3 => by
      rcases i5 k with ⟨h, e⟩ | ⟨_, _, q, _, hq1, hq2, e⟩ | ⟨_, _, e⟩ | ⟨h, e⟩
      · exact absurd h (by have : n ≤ k := h1; omega)
      · rw [e] at h3
        rcases st.newb q b m (by rw [hO.1]; exact hq1) (by rw [c1]; exact hq2) h3 with r | ⟨k0, m0, r1, r2, r3⟩
        · exact .inl r
        · exact .inr ⟨k0, m0, hWr k0 r1 (by rw [hO.1] at r2; exact r2), (by rw [hO.1] at r2; exact r2), r3⟩
      · rw [e] at h3; cases h3
      · exact absurd h (by have : k < nC := h2; omega)
    habs := hhabs
    frame := fun b hb hn => st.frame b hb fun k m h hw => hn k m (by rw [hO.1] at h; exact h) (hWr k hw (by rw [hO.1] at h; exact h))
    size := st.size
    os := st.os
    tape := st.tape
    output := st.output }
  refine ⟨ι', hRn, i1, stC, ?_⟩
  · refine ⟨fun k k' b m m' h1 h2 => ?_, fun k b m h1 => ?_, fun k h1 h2 => ?_, fun k l hl => ?_, fun k l hFk hl => ?_, sat.bel⟩
    · rcases i5 k with ⟨r, e⟩ | ⟨r, r', q, eq, hq1, hq2, e⟩ | ⟨r, r', e⟩ | ⟨r, e⟩ <;> rcases i5 k' with ⟨s, f⟩ | ⟨s, s', q', fq, hq1', hq2', f⟩ | ⟨s, s', f⟩ | ⟨s, f⟩ <;> rw [e] at h1 <;> rw [f] at h2
      all_goals first
        | (cases h1; done)
        | (cases h2; done)
        | (have := sat.inj _ _ _ _ _ h1 h2; first | exact this | (exfalso; omega) | (subst this; exact assocN_inj c2 eq fq))
    · rcases i5 k with ⟨r, e⟩ | ⟨r, r', q, eq, hq1, hq2, e⟩ | ⟨r, r', e⟩ | ⟨r, e⟩ <;> rw [e] at h1
      all_goals first
        | (cases h1; done)
        | exact sat.bnd _ _ _ h1
    · have h1 : nC ≤ k := h1
      rw [i4 k h1]
      exact sat.un k (by rw [c1]; exact h1) h2
    · show k < nC
      change HC.get k = _ at hl
      rw [hget k] at hl
      split at hl
      · rename_i x hx
        obtain ⟨hx1, hx2⟩ := find_key hx
        obtain ⟨q, r2, e1, e2, e3⟩ := rowsOK_all c6 k l (by rw [← hl, ← hx2]; exact hx1)
        unfold nameR at e1
        split at e1
        · rename_i h
          have : k < n := by simpa [Nat.blt_eq] using h
          omega
        · exact (c3 k (assocN_mem e1).1).2
      · have : k < n := hs.dom k l hl
        omega
    · change HC.get k = _ at hl
      rw [hget k] at hl
      split at hl
      · rename_i x hx
        obtain ⟨hx1, hx2⟩ := find_key hx
        obtain ⟨q, r2, e1, e2, e3⟩ := rowsOK_all c6 k l (by rw [← hl, ← hx2]; exact hx1)
        have hFq : F q := by
          unfold nameR at e1
          split at e1
          · cases e1; exact hFk
          · exact hF.2.2 q (by have := (c4 q (assocN_mem e1).2).1; show thr ≤ q; omega)
        obtain ⟨b, m, hb1, hb2⟩ := sat.rel q r2 hFq e2
        exact ⟨b, m, by rw [hRn k q e1]; exact hb1, leRow_BX hRn e3 hb2⟩
      · rename_i hnone
        have hkn : k < n := hs.dom k l hl
        have hnw : ¬ Wr p.g k := by
          rintro (h | h)
          · obtain ⟨x, hx1, hx2⟩ := keysU_mem.1 (c7 k h)
            have := List.find?_eq_none.1 hnone x hx1
            simp [hx2] at this
          · omega
        obtain ⟨b, m, hb1, hb2⟩ := hs.rel k l hFk hl
        have e1 : ι1 k = ι k := by
          rcases st.old k (by rw [hO.1]; exact hkn) with r | ⟨_, hw⟩
          · exact r
          · exact absurd hw hnw
        refine ⟨b, m, by rw [i1 k hkn, e1]; exact hb1, hb2.mono hle ?_⟩
        refine st.frame b (hs.bnd k b m hb1).2 fun j m' hj hw e => hnw ?_
        rw [hs.inj k j b m m' hb1 e]
        exact hw
theorem cover_ok {g gC : G} {H HC : T Row} {n thr nC : Nat} {rd wr rdC wrC : List Nat} {lC : List AV} {tmC : T AV} {us : List (Nat × Option Row)} {p : Pth} {ps : List (Nat × Nat)} (hg : g = ⟨H, n, thr, rd, wr⟩) (hgC : gC = ⟨HC, nC, thr, below? thr rdC rd, below? thr wrC wr⟩)
    (hcov : covers n Nt nC lC us wrC p ps = true) (hkeys : keysOK n wrC us = true) (htm : argsT 0 .nil lC = some tmC) (hH : setU H us = some HC) (hrd : ∀ k ∈ p.g.rd, k ∈ rdC) {mk : List Nat} (hmk : inN 0 n mk = true) (hm : Mono (own g) p.g)
    {N : Nat} {F : Nat → Prop} {w0 : World} {ι : Io} {w : World} (hs : Sat N F g ι w0 w) (hF : FOK F gC) (hN : nC ≤ N) (hthr : thr ≤ n) {ι1 : Io} {ds' : List Deferred} {a' : Act} {w' : World} (ht : TR ι1 Nt ds' p.tm a') (hk : MK ι1 mk ds') (st : Step (own g) p.g ι ι1 w w') (sat : Sat N F p.g ι1 w0 w') :
    ∃ ι', TR ι' Nt ds' tmC a' ∧ MK ι' mk ds' ∧ Step g gC ι ι' w w' ∧ Sat N F gC ι' w0 w' := by
  obtain ⟨ι', hRn, i1, stC, satC⟩ := cover_core hg hgC hcov hkeys hH (gO := own g) (by subst hg; exact ⟨rfl, rfl⟩) hm hs hF hN hthr st sat
  unfold covers at hcov
  simp only [Bool.and_eq_true] at hcov
  obtain ⟨c1, c2, c3, c4, c5, c6, c7, c8⟩ := hcov
  have hlen := (leL_get c5).1
  rw [opndsT_len] at hlen
  refine ⟨ι', ⟨ht.size, ht.defers, fun (t : Nat) => ?_⟩, ?_, stC, satC⟩
  · have hg := argsT_get lC 0 .nil tmC htm t
    by_cases h : t < lC.length
    · rw [if_pos ⟨Nat.zero_le _, by omega⟩, Nat.sub_zero, List.getElem?_eq_getElem h] at hg
      obtain ⟨b, hb1, hb2⟩ := (leL_get c5).2 t _ (List.getElem?_eq_getElem h)
      rw [opndsT_get Nt 0 t (by omega), Nat.zero_add] at hb1
      cases hb1
      rw [opnd_some hg]
      exact leA_VR hRn _ _ _ hb2 (ht.rel t)
    · rw [if_neg (by omega), T.get_nil] at hg
      have : opnd tmC (.tmp t) = .v undef := by simp only [opnd, hg]
      rw [this, VR]
      have hsz := ht.size
      simp [Act.eval, Array.getD, show ¬ t < a'.tmps.size by omega]
  · exact MK_same (fun k hk => i1 k (inN_all hmk k hk).2) hk
theorem addN_mem {k : Nat} : ∀ {ks l : List Nat}, k ∈ addN l ks ↔ k ∈ l ∨ k ∈ ks
  | [], l => by simp [addN]
  | x :: ks, l => by
    simp only [addN]
    split
    · rename_i h
      rw [addN_mem]
      have := memS_iff.1 h
      constructor
      · rintro (e | e)
        · exact .inl e
        · exact .inr (by simp [e])
      · rintro (e | e)
        · exact .inl e
        · rcases List.mem_cons.1 e with rfl | e
          · exact .inl this
          · exact .inr e
    · rw [addN_mem]
      simp only [List.mem_cons]
      constructor
      · rintro ((e | e) | e)
        · exact .inr (.inl e)
        · exact .inl e
        · exact .inr (.inr e)
      · rintro (e | e | e)
        · exact .inl (.inr e)
        · exact .inl (.inl e)
        · exact .inr e
theorem allWr_mem {k : Nat} : ∀ {l : List PthR} {acc : List Nat}, k ∈ allWr l acc ↔ k ∈ acc ∨ ∃ x ∈ l, k ∈ x.1.g.wr
  | [], acc => by simp [allWr]
  | (p, ps) :: l, acc => by
    simp only [allWr]
    rw [allWr_mem, addN_mem]
    simp only [List.mem_cons, exists_eq_or_imp]
    constructor
    · rintro ((e | e) | e)
      · exact .inl e
      · exact .inr (.inl e)
      · exact .inr (.inr e)
    · rintro (e | e | e)
      · exact .inl (.inl e)
      · exact .inl (.inr e)
      · exact .inr e
theorem allRd_mem {k : Nat} : ∀ {l : List PthR}, k ∈ allRd l ↔ ∃ x ∈ l, k ∈ x.1.g.rd
  | [] => by simp [allRd]
  | (p, ps) :: l => by
    simp only [allRd, List.mem_append, allRd_mem, List.mem_cons, exists_eq_or_imp]
theorem allCover_mem {base Nt nC : Nat} {lC : List AV} {us : List (Nat × Option Row)} {wrC : List Nat} : ∀ {l : List PthR}, allCover base Nt nC lC us wrC l = true → ∀ x ∈ l, covers base Nt nC lC us wrC x.1 x.2 = true
  | [], _, x, hx => by cases hx
  | (p, ps) :: l, h, x, hx => by
    simp only [allCover] at h
    split at h
    · rename_i h1
      rcases List.mem_cons.1 hx with rfl | hx
      · exact h1
      · exact allCover_mem h x hx
    · cases h
theorem withPs_mem {keep : Bool} {r : AV} {s1 b1 : List Nat} : ∀ {l : List Pth}, (∀ p ∈ l, ∃ ps, (p, ps) ∈ withPs keep r s1 b1 l) ∧ ∀ x ∈ withPs keep r s1 b1 l, x.1 ∈ l
  | [] => ⟨fun p hp => (by cases hp), fun x hx => (by cases hx)⟩
  | p :: l => by
    obtain ⟨q1, q2⟩ := withPs_mem (keep := keep) (r := r) (s1 := s1) (b1 := b1) (l := l)
    refine ⟨fun x hx => ?_, fun x hx => ?_⟩
    · rcases List.mem_cons.1 hx with rfl | hx
      · exact ⟨_, List.mem_cons_self⟩
      · obtain ⟨ps, h⟩ := q1 x hx
        exact ⟨ps, List.mem_cons_of_mem _ h⟩
    · rcases List.mem_cons.1 hx with rfl | hx
      · exact List.mem_cons_self
      · exact List.mem_cons_of_mem _ (q2 x hx)
/-- What 'meet' has checked. -/
theorem meet_some {keep : Bool} {r : AV} {H : T Row} {n thr : Nat} {rd wr : List Nat} {paths : List Pth} {tmC : T AV} {gC : G} (h : meet Nt keep r ⟨H, n, thr, rd, wr⟩ paths = some (tmC, gC)) :
    ∃ (prs : List PthR) (nC : Nat) (HC : T Row) (lC : List AV) (us : List (Nat × Option Row)), (∀ p ∈ paths, ∃ ps, (p, ps) ∈ prs) ∧ (∀ x ∈ prs, x.1 ∈ paths) ∧ allCover n Nt nC lC us (allWr prs []) prs = true ∧ keysOK n (allWr prs []) us = true ∧ argsT 0 .nil lC = some tmC ∧
      setU H us = some HC ∧ gC = ⟨HC, nC, thr, below? thr (allRd prs) rd, below? thr (allWr prs []) wr⟩ := by
  unfold meet at h
  split at h
  · cases h
  · rename_i p l
    dsimp only at h
    split at h
    · rename_i c1 c2 c3
      split at h
      · rename_i tm HC ht hH
        rw [forceNat_eq] at h
        refine ⟨_, _, HC, _, _, withPs_mem.1, withPs_mem.2, c1, c2, ?_, hH, ?_⟩
        · split at h <;> cases h <;> exact ht
        · split at h
          · rename_i hz
            obtain rfl : thr = 0 := beq_tt hz
            cases h
            rw [below_zero, below_zero]
          · cases h
            rfl
      · cases h
    · cases h
theorem evMapLoop_ok (hng : noNumG P = true) (hm : P.follows .mixedOrders = true) (hc : CallOK P call) {keep : Bool} {id : Nat} {b : Code} {x : Operand} {tm : T AV} {mk : List Nat} {g : G} {e : Ex} {tm' : T AV} {mk' : List Nat} {g' : G}
    (h : evMapLoop P call Nt lf keep id b x tm mk g = some (e, tm', mk', g')) : Mono g g' ∧ ∀ N F w0 ι ds a w Q, g'.n ≤ N → FOK F g' → TR ι Nt ds tm a → MK ι mk ds → Sat N F g ι w0 w → g.thr ≤ g.n →
      (∀ ι' ds' a' w', TR ι' Nt ds' tm' a' → MK ι' mk' ds' → Step g g' ι ι' w w' → Sat N F g' ι' w0 w' → Q e.to a' w') → (Code.block id (.loop b)).wpIn (FW none) 0 P Q a w := by
  unfold evMapLoop at h
  split at h
  rename_i H n thr rd wr
  split at h
  · rename_i paths hmk hl
    split at h
    · rename_i tmC gC hmeet
      cases h
      obtain ⟨prs, nC, HC, lC, us, q1, q2, q3, q4, q5, q6, q7⟩ := meet_some hmeet
      obtain ⟨n1, m1, k1⟩ := loopN_ok hng hm hc lf hl
      have hcv := allCover_mem q3
      have hnC : ∀ y ∈ prs, y.1.g.n = nC := fun y hy => by
        have := hcv y hy
        unfold covers at this
        simp only [Bool.and_eq_true] at this
        exact beq_tt this.1
      have hown : ∀ p ∈ paths, Mono (own ⟨H, n, thr, rd, wr⟩) p.g := m1
      have hget := setU_get q6
      have hkeys := keysOK_all q4
      have hex : ∃ y, y ∈ prs := by
        obtain ⟨p, hp⟩ := List.exists_mem_of_ne_nil _ n1
        obtain ⟨ps, hps⟩ := q1 p hp
        exact ⟨_, hps⟩
      have hnn : n ≤ nC := by
        obtain ⟨y, hy⟩ := hex
        rw [← hnC y hy]
        exact (hown _ (q2 y hy)).n
      have hrdlt : ∀ k ∈ allRd prs, k < n := fun k hk => by
        obtain ⟨y, hy, hk⟩ := allRd_mem.1 hk
        rcases (hown _ (q2 y hy)).rlt k hk with e | e
        · cases e
        · exact e
      have hwrrd : ∀ k ∈ allWr prs [], k ∈ allRd prs := fun k hk => by
        rcases allWr_mem.1 hk with e | ⟨y, hy, hk⟩
        · cases e
        · rcases (hown _ (q2 y hy)).wrd k hk with e | e
          · cases e
          · exact allRd_mem.2 ⟨y, hy, e⟩
      have mono : Mono ⟨H, n, thr, rd, wr⟩ g' := by
        subst q7
        refine ⟨hnn, rfl, fun k hk => below?_mem.2 (.inl hk), fun k hk => below?_mem.2 (.inl hk), fun k hk => ?_, fun k hk => ?_, fun k h hw => ?_, fun ht hd k l hl => ?_⟩
        · rcases below?_mem.1 hk with e | ⟨_, e⟩
          · exact .inl e
          · exact .inr e
        · rcases below?_mem.1 hk with e | ⟨e, e2⟩
          · exact .inl e
          · exact .inr (below?_mem.2 (.inr ⟨hwrrd k e, e2⟩))
        · show HC.get k = H.get k
          rw [hget k]
          split
          · rename_i y hy
            obtain ⟨hy1, hy2⟩ := find_key hy
            rcases hkeys k (keysU_mem.2 ⟨y, hy1, hy2⟩) with e | e
            · have : k < n := h
              omega
            · exfalso
              refine hw ?_
              by_cases e2 : k < thr
              · exact .inl (below?_mem.2 (.inr ⟨e, e2⟩))
              · exact .inr (by show thr ≤ k; omega)
          · rfl
        · change HC.get k = _ at hl
          show k < nC
          rw [hget k] at hl
          split at hl
          · rename_i y hy
            obtain ⟨hy1, hy2⟩ := find_key hy
            obtain ⟨z, hz⟩ := hex
            have := hcv z hz
            unfold covers at this
            simp only [Bool.and_eq_true] at this
            obtain ⟨_, _, c3, _, _, c6, _⟩ := this
            obtain ⟨q, r2, e1, e2, e3⟩ := rowsOK_all c6 k l (by rw [← hl, ← hy2]; exact hy1)
            unfold nameR at e1
            split at e1
            · rename_i h
              have : k < n := by simpa [Nat.blt_eq] using h
              omega
            · exact (inN_all c3 k (assocN_mem e1).1).2
          · have : k < n := hd k l hl
            omega
      refine ⟨mono, fun N F w0 ι ds a w Q hN hF ht hk hs hthr hQ => ?_⟩
      refine wpIn_block (wpIn_loop_rounds lf ?_)
      have hFown : FOK F g' → ∀ p ∈ paths, FOK F p.g := fun hF p hp => by
        obtain ⟨ps, hps⟩ := q1 p hp
        subst q7
        have hthr1 : p.g.thr = n := (hown p hp).thr
        have hall : ∀ k, k ∈ p.g.rd → F k := fun k hk => by
          by_cases e : k < thr
          · exact hF.1 k (below?_mem.2 (.inr ⟨allRd_mem.2 ⟨_, hps, hk⟩, e⟩))
          · exact hF.2.2 k (by show thr ≤ k; omega)
        refine ⟨hall, fun k hk => ?_, fun k hk => hF.2.2 k ?_⟩
        · rcases (hown p hp).wrd k hk with e | e
          · cases e
          · exact hall k e
        · have : thr ≤ n := hthr
          show thr ≤ k
          omega
      have hsO : Sat N F (own ⟨H, n, thr, rd, wr⟩) ι w0 w := ⟨hs.inj, hs.bnd, hs.un, hs.dom, hs.rel, hs.bel⟩
      have hNp : ∀ p ∈ paths, p.g.n ≤ N := fun p hp => by
        obtain ⟨ps, hps⟩ := q1 p hp
        rw [hnC _ hps]
        subst q7
        exact hN
      refine k1 N F w0 ι ds a w _ hNp (hFown hF) ht hk hsO (Nat.le_refl _) fun p hp ι1 ds' a' w' ht' hk' st sat => ?_
      obtain ⟨ps, hps⟩ := q1 p hp
      obtain ⟨ι', r1, r2, r3, r4⟩ := cover_ok (g := ⟨H, n, thr, rd, wr⟩) (gC := g') rfl q7 (hcv _ hps) q4 q5 q6 (fun k hk => allRd_mem.2 ⟨_, hps, hk⟩) hmk (hown p hp) hs hF (by subst q7; exact hN) hthr ht' hk' st sat
      show Exit.inBlock id Q (.exit id) a' w'
      simp only [Exit.inBlock, if_true]
      exact hQ ι' ds' a' w' r1 r2 r3 r4
    · cases h
  · cases h
theorem body_ok (hng : noNumG P = true) (hm : P.follows .mixedOrders = true) (hc : CallOK P call) (lf : Nat) (keep : Bool) : ∀ c : Code, BodyOK P Nt (evBody P call Nt lf keep c) fun Q a w => c.wpIn (FW none) 0 P Q a w
  | .seq x y, tm, mk, g, e, tm', mk', g', h => by
    simp only [evBody] at h
    split at h
    · rename_i tm1 mk1 g1 hx
      obtain ⟨m1, h1⟩ := body_ok hng hm hc lf keep x _ _ _ _ _ _ _ hx
      obtain ⟨m2, h2⟩ := body_ok hng hm hc lf keep y _ _ _ _ _ _ _ h
      refine ⟨m1.tr m2, fun N F w0 ι ds a w Q hN hF ht hk hs hthr hQ => ?_⟩
      refine wpIn_seq (h1 N F w0 ι ds a w _ (Nat.le_trans m2.n hN) (m2.fok hF) ht hk hs hthr fun ι' ds' a' w' ht' hk' st sat => ?_)
      exact h2 N F w0 ι' ds' a' w' Q hN hF ht' hk' sat (by rw [m1.thr]; exact Nat.le_trans hthr m1.n) fun ι2 ds2 a2 w2 t2 k2 st2 sat2 => hQ ι2 ds2 a2 w2 t2 k2 (st.trans st2) sat2
    · rename_i hne
      obtain ⟨m1, h1⟩ := body_ok hng hm hc lf keep x _ _ _ _ _ _ _ h
      refine ⟨m1, fun N F w0 ι ds a w Q hN hF ht hk hs hthr hQ => ?_⟩
      refine wpIn_seq (h1 N F w0 ι ds a w _ hN hF ht hk hs hthr fun ι' ds' a' w' ht' hk' st sat => ?_)
      have := hQ ι' ds' a' w' ht' hk' st sat
      cases e with
      | normal => exact (hne _ _ _ h).elim
      | exit id => exact this
      | ret => exact this
  | .block id c, tm, mk, g, e, tm', mk', g', h => by
    simp only [evBody] at h
    split at h
    · split at h
      · exact evMapLoop_ok hng hm hc h
      · exact code_ok hng hm hc lf none _ _ _ _ _ _ _ _ h
    · exact code_ok hng hm hc lf none _ _ _ _ _ _ _ _ h
  | .skip, tm, mk, g, e, tm', mk', g', h => code_ok hng hm hc lf none .skip _ _ _ _ _ _ _ h
  | .label l, tm, mk, g, e, tm', mk', g', h => code_ok hng hm hc lf none (.label l) _ _ _ _ _ _ _ h
  | .region i o d, tm, mk, g, e, tm', mk', g', h => code_ok hng hm hc lf none (.region i o d) _ _ _ _ _ _ _ h
  | .cond c x y, tm, mk, g, e, tm', mk', g', h => code_ok hng hm hc lf none (.cond c x y) _ _ _ _ _ _ _ h
  | .loop c, tm, mk, g, e, tm', mk', g', h => code_ok hng hm hc lf none (.loop c) _ _ _ _ _ _ _ h
  | .exit id, tm, mk, g, e, tm', mk', g', h => code_ok hng hm hc lf none (.exit id) _ _ _ _ _ _ _ h
  | .scope c, tm, mk, g, e, tm', mk', g', h => code_ok hng hm hc lf none (.scope c) _ _ _ _ _ _ _ h
  | .ret, tm, mk, g, e, tm', mk', g', h => code_ok hng hm hc lf none .ret _ _ _ _ _ _ _ h
  | .rangeFunc f ps asg bd, tm, mk, g, e, tm', mk', g', h => code_ok hng hm hc lf none (.rangeFunc f ps asg bd) _ _ _ _ _ _ _ h
  | .goto l, tm, mk, g, e, tm', mk', g', h => code_ok hng hm hc lf none (.goto l) _ _ _ _ _ _ _ h
  | .refuse s, tm, mk, g, e, tm', mk', g', h => code_ok hng hm hc lf none (.refuse s) _ _ _ _ _ _ _ h
theorem top_ok (hng : noNumG P = true) (hm : P.follows .mixedOrders = true) (hc : CallOK P call) (lf : Nat) (keep : Option Bool) (c : Code) : BodyOK P Nt (evTop P call Nt lf keep c) fun Q a w => c.wpIn (FW none) 0 P Q a w := by
  cases keep with
  | none => exact code_ok hng hm hc lf none c
  | some keep => exact body_ok hng hm hc lf keep c
end
end Go.Proofs.YtjblkeofjkdpbaaGreatDoor.Eng
