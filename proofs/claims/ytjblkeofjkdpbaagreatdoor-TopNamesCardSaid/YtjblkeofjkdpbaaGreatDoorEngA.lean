/- The evaluator's plain laws: trees, lists, values by names. No condition. -/
import Derived.Test.YtjblkeofjkdpbaaGreatDoorEng
import Derived.Deep.MidRow
import Derived.Deep.AppendSrc
import Derived.Laws.MakeOwn
import Derived.Laws.AppendOwn
namespace Go.Proofs.YtjblkeofjkdpbaaGreatDoor.Eng
open Go
set_option linter.unusedVariables false
set_option linter.unusedSimpArgs false

/-! ### Trees -/
section
variable {α : Type}
theorem beq_ff {a b : Nat} (h : ¬ a = b) : Nat.beq a b = false := by
  cases e : Nat.beq a b with
  | false => rfl
  | true => exact absurd (Nat.eq_of_beq_eq_true e) h
theorem beq_tt {a b : Nat} (h : Nat.beq a b = true) : a = b := Nat.eq_of_beq_eq_true h
theorem T.get_nil (k : Nat) : (T.nil : T α).get k = none := rfl
theorem T.get_node (l : T α) (v : Option α) (r : T α) (k : Nat) : (T.node l v r).get k = if k = 0 then v else if k % 2 = 1 then l.get (k / 2) else r.get (k / 2 - 1) := by
  show Bool.rec (motive := fun _ => Option α) (Bool.rec (motive := fun _ => Option α) (r.get (Nat.sub (Nat.div k 2) 1)) (l.get (Nat.div k 2)) (Nat.beq (Nat.mod k 2) 1)) v (Nat.beq k 0) = _
  by_cases h0 : k = 0
  · subst h0; rfl
  · rw [if_neg h0, beq_ff h0]
    by_cases h1 : k % 2 = 1
    · rw [if_pos h1, show Nat.beq (Nat.mod k 2) 1 = true by rw [show Nat.mod k 2 = 1 from h1]; rfl]; rfl
    · rw [if_neg h1, show Nat.beq (Nat.mod k 2) 1 = false from beq_ff h1]; rfl
theorem T.one_get (v : Option α) : ∀ (f k : Nat) (t' : T α), T.one v f k = some t' → ∀ j, t'.get j = if j = k then v else none
  | 0, k, t', h => by cases h
  | f + 1, k, t', h => by
    change Bool.rec (motive := fun _ => Option (T α))
      (Bool.rec (motive := fun _ => Option (T α))
        (Option.rec (motive := fun _ => Option (T α)) none (fun r => some (.node .nil none r)) (T.one v f (k / 2 - 1)))
        (Option.rec (motive := fun _ => Option (T α)) none (fun l => some (.node l none .nil)) (T.one v f (k / 2))) (Nat.beq (k % 2) 1))
      (some (.node .nil v .nil)) (Nat.beq k 0) = _ at h
    intro j
    by_cases h0 : k = 0
    · subst h0
      cases h
      rw [T.get_node]
      by_cases hj : j = 0
      · simp [hj]
      · simp [hj, T.get_nil]
    · rw [beq_ff h0] at h
      by_cases h1 : k % 2 = 1
      · rw [show Nat.beq (k % 2) 1 = true by rw [h1]; rfl] at h
        cases hl : T.one v f (k / 2) with
        | none => rw [hl] at h; cases h
        | some l =>
          rw [hl] at h
          cases h
          rw [T.get_node]
          have ih := T.one_get v f _ _ hl
          by_cases hj : j = 0
          · rw [if_pos hj, if_neg (by omega)]
          · rw [if_neg hj]
            by_cases hj1 : j % 2 = 1
            · rw [if_pos hj1, ih]
              by_cases e : j = k
              · subst e; simp
              · rw [if_neg e, if_neg (by omega)]
            · rw [if_neg hj1, if_neg (by omega), T.get_nil]
      · rw [beq_ff h1] at h
        cases hl : T.one v f (k / 2 - 1) with
        | none => rw [hl] at h; cases h
        | some l =>
          rw [hl] at h
          cases h
          rw [T.get_node]
          have ih := T.one_get v f _ _ hl
          by_cases hj : j = 0
          · rw [if_pos hj, if_neg (by omega)]
          · rw [if_neg hj]
            by_cases hj1 : j % 2 = 1
            · rw [if_pos hj1, if_neg (by omega), T.get_nil]
            · rw [if_neg hj1, ih]
              by_cases e : j = k
              · subst e; simp
              · rw [if_neg e, if_neg (by omega)]
theorem T.set_get (v : Option α) (f : Nat) : ∀ (t t' : T α) (k : Nat), T.set v f t k = some t' → ∀ j, t'.get j = if j = k then v else t.get j
  | .nil, t', k, h => fun j => T.one_get v f k t' h j
  | .node l x r, t', k, h => by
    change Bool.rec (motive := fun _ => Option (T α))
      (Bool.rec (motive := fun _ => Option (T α))
        (Option.rec (motive := fun _ => Option (T α)) none (fun r => some (.node l x r)) (T.set v f r (k / 2 - 1)))
        (Option.rec (motive := fun _ => Option (T α)) none (fun l => some (.node l x r)) (T.set v f l (k / 2))) (Nat.beq (k % 2) 1))
      (some (.node l v r)) (Nat.beq k 0) = _ at h
    intro j
    by_cases h0 : k = 0
    · subst h0
      cases h
      rw [T.get_node, T.get_node]
      by_cases hj : j = 0
      · simp [hj]
      · simp [hj]
    · rw [beq_ff h0] at h
      by_cases h1 : k % 2 = 1
      · rw [show Nat.beq (k % 2) 1 = true by rw [h1]; rfl] at h
        cases hl : T.set v f l (k / 2) with
        | none => rw [hl] at h; cases h
        | some l' =>
          rw [hl] at h
          cases h
          rw [T.get_node, T.get_node]
          have ih := T.set_get v f _ _ _ hl
          by_cases hj : j = 0
          · rw [if_pos hj, if_neg (by omega), if_pos hj]
          · rw [if_neg hj, if_neg hj]
            by_cases hj1 : j % 2 = 1
            · rw [if_pos hj1, if_pos hj1, ih]
              by_cases e : j = k
              · subst e; simp
              · rw [if_neg e, if_neg (by omega)]
            · rw [if_neg hj1, if_neg hj1, if_neg (by omega)]
      · rw [beq_ff h1] at h
        cases hl : T.set v f r (k / 2 - 1) with
        | none => rw [hl] at h; cases h
        | some l' =>
          rw [hl] at h
          cases h
          rw [T.get_node, T.get_node]
          have ih := T.set_get v f _ _ _ hl
          by_cases hj : j = 0
          · rw [if_pos hj, if_neg (by omega), if_pos hj]
          · rw [if_neg hj, if_neg hj]
            by_cases hj1 : j % 2 = 1
            · rw [if_pos hj1, if_pos hj1, if_neg (by omega)]
            · rw [if_neg hj1, if_neg hj1, ih]
              by_cases e : j = k
              · subst e; simp
              · rw [if_neg e, if_neg (by omega)]
theorem getL_eq (l : List α) : ∀ k, getL l k = l[k]? := by
  induction l with
  | nil => intro k; simp [getL]
  | cons x l ih => intro k; cases k <;> simp [getL, ih]
theorem setL_some (v : α) : ∀ (l : List α) (k : Nat) (l' : List α), setL v l k = some l' → k < l.length ∧ l' = l.set k v := by
  intro l
  induction l with
  | nil => intro k l' h; simp [setL] at h
  | cons x l ih =>
    intro k l' h
    cases k with
    | zero => simp [setL] at h; subst h; simp
    | succ k =>
      simp only [setL] at h
      split at h
      · rename_i ys hy
        cases h
        obtain ⟨h1, h2⟩ := ih _ _ hy
        subst h2
        simp [h1]
      · cases h
theorem takeL_some : ∀ (n : Nat) (l l' : List α), takeL n l = some l' → n ≤ l.length ∧ l' = l.take n := by
  intro n
  induction n with
  | zero => intro l l' h; simp [takeL] at h; subst h; simp
  | succ n ih =>
    intro l l' h
    cases l with
    | nil => simp [takeL] at h
    | cons x l =>
      simp only [takeL] at h
      split at h
      · rename_i ys hy
        cases h
        obtain ⟨h1, h2⟩ := ih _ _ hy
        subst h2
        simp [h1]
      · cases h
theorem dropL_some : ∀ (n : Nat) (l l' : List α), dropL n l = some l' → n ≤ l.length ∧ l' = l.drop n := by
  intro n
  induction n with
  | zero => intro l l' h; simp [dropL] at h; subst h; simp
  | succ n ih =>
    intro l l' h
    cases l with
    | nil => simp [dropL] at h
    | cons x l =>
      simp only [dropL] at h
      obtain ⟨h1, h2⟩ := ih _ _ h
      simp [h1, h2]
theorem appL_some : ∀ (l m l' : List α), appL l m = some l' → l' = l ++ m := by
  intro l
  induction l with
  | nil => intro m l' h; simp [appL] at h; simp [h]
  | cons x l ih =>
    intro m l' h
    simp only [appL] at h
    split at h
    · rename_i ys hy
      cases h
      rw [ih _ _ hy]; rfl
    · cases h
theorem repL_some (x : List α) : ∀ (n : Nat) (l : List α), repL x n = some l → l = (List.replicate n x).flatten := by
  intro n
  induction n with
  | zero => intro l h; simp [repL] at h; simp [h]
  | succ n ih =>
    intro l h
    simp only [repL] at h
    split at h
    · rename_i ys hy
      rw [appL_some _ _ _ h, ih _ hy, List.replicate_succ, List.flatten_cons]
    · cases h
theorem setsL_some : ∀ (vs l : List α) (k : Nat) (l' : List α), setsL l k vs = some l' → (vs = [] ∨ k + vs.length ≤ l.length) ∧ l'.length = l.length ∧
    ∀ i, l'[i]? = if k ≤ i ∧ i < k + vs.length then vs[i - k]? else l[i]? := by
  intro vs
  induction vs with
  | nil => intro l k l' h; simp [setsL] at h; subst h; refine ⟨.inl rfl, rfl, fun i => ?_⟩; rw [if_neg (by simp)]
  | cons v vs ih =>
    intro l k l' h
    simp only [setsL] at h
    split at h
    · rename_i m hm
      obtain ⟨h1, rfl⟩ := setL_some _ _ _ _ hm
      obtain ⟨h2, h3, h4⟩ := ih _ _ _ h
      rw [List.length_set] at h3
      refine ⟨.inr ?_, h3, fun i => ?_⟩
      · rcases h2 with h2 | h2
        · subst h2; simp; omega
        · rw [List.length_set] at h2; simp; omega
      · rw [h4 i]
        simp only [List.length_cons]
        by_cases hik : i = k
        · subst hik
          rw [if_neg (by omega), if_pos (by omega)]
          simp [h1]
        · by_cases hi : k + 1 ≤ i ∧ i < k + 1 + vs.length
          · rw [if_pos hi, if_pos (by omega), show i - k = (i - (k + 1)) + 1 by omega]
            simp
          · rw [if_neg hi, if_neg (by omega), List.getElem?_set_ne (by omega)]
    · cases h
theorem slice?_some {l l' : List AV} {o n : Nat} (h : slice? l o n = some l') : l'.length = n ∧ o + n ≤ l.length ∧ ∀ i, i < n → l'[i]? = l[o + i]? := by
  unfold slice? at h
  split at h
  · rename_i m hm
    obtain ⟨h1, rfl⟩ := dropL_some _ _ _ hm
    obtain ⟨h2, rfl⟩ := takeL_some _ _ _ h
    rw [List.length_drop] at h2
    refine ⟨by simp; omega, by omega, fun i hi => ?_⟩
    rw [List.getElem?_take_of_lt hi, List.getElem?_drop]
  · cases h
end

/-! ### Values by names -/
inductive Loc where
  | un
  | dead
  | at_ (b m : Nat)
abbrev Io := Nat → Loc
/-- A name's block, or none any more. -/
def Loc.is (l : Loc) (b : Nat) : Prop := l = .dead ∨ ∃ m, l = .at_ b m
mutual
def VR (ι : Io) : AV → Value → Prop
  | .v x, y => y = x
  | .ptr k off, y => ∃ b, y = .pointer (some ⟨b, off, none⟩) ∧ (ι k).is b
  | .sl k off len cap sz, y => ∃ b c, y = .slice (some ⟨b, off, none⟩) len c ∧ len ≤ c ∧ (∀ c', cap = some c' → c = c') ∧ (ι k = .dead ∨ ∃ m, ι k = .at_ b m ∧ (cap = none → off + c * sz ≤ m))
  | .agg l, y => ∃ vs, y = .agg vs ∧ VRL ι l vs.toList
  | .tup l, y => ∃ vs, y = .tuple vs ∧ VRL ι l vs.toList
  | .fn f a b, y => ∃ vs us, y = .func f vs us ∧ VRL ι a vs.toList ∧ VRL ι b us.toList
  | .es, y => ∃ b c, y = .slice (some b) 0 c
  | .yl k, y => ∃ b, y = .func (.yield b) #[] #[] ∧ (ι k).is b
  | .lp _ _ _ _ _ _ _, _ => False
  | .df _, _ => False
  | .ded, _ => False
  | .mr k, y => ∃ b, y = .map (some b) ∧ (ι k).is b
  | .mp _ _ _, _ => False
  | .mi _ _ _ _, _ => False
  | .m0, _ => False
  | .top, y => y.oneCell' = true
def VRL (ι : Io) : List AV → List Value → Prop
  | [], vs => vs = []
  | a :: l, vs => ∃ v us, vs = v :: us ∧ VR ι a v ∧ VRL ι l us
end
/-- Names may come to be, and be lost; else they stand. -/
def Le (ι ι' : Io) : Prop := ∀ k, ι k = .un ∨ ι' k = ι k ∨ ι' k = .dead
theorem Le.refl (ι : Io) : Le ι ι := fun _ => .inr (.inl rfl)
theorem Le.is {ι ι' : Io} (h : Le ι ι') {k b : Nat} (hk : (ι k).is b) : (ι' k).is b := by
  rcases h k with h | h | h
  · rcases hk with hk | ⟨m, hk⟩ <;> rw [h] at hk <;> cases hk
  · rw [h]; exact hk
  · exact .inl h
theorem Le.trans {a b c : Io} (h : Le a b) (k : Le b c) (hun : ∀ i, a i ≠ .un → b i ≠ .un) : Le a c := fun i => by
  rcases h i with h1 | h1 | h1
  · exact .inl h1
  · rcases k i with k1 | k1 | k1
    · by_cases e : a i = .un
      · exact .inl e
      · exact absurd k1 (hun i e)
    · exact .inr (.inl (k1.trans h1))
    · exact .inr (.inr k1)
  · rcases k i with k1 | k1 | k1
    · rw [h1] at k1; cases k1
    · exact .inr (.inr (k1.trans h1))
    · exact .inr (.inr k1)
theorem Le.un {a b : Io} (h : Le a b) {i : Nat} (hi : a i ≠ .un) : b i ≠ .un := by
  rcases h i with h | h | h
  · exact absurd h hi
  · rw [h]; exact hi
  · rw [h]; intro e; cases e
theorem Le.tr {a b c : Io} (h : Le a b) (k : Le b c) : Le a c := h.trans k fun _ hi => h.un hi
mutual
theorem VR.mono {ι ι' : Io} (h : Le ι ι') : ∀ (a : AV) (v : Value), VR ι a v → VR ι' a v
  | .v x, v, hv => by rw [VR] at *; exact hv
  | .ptr k off, v, hv => by
    rw [VR] at *
    obtain ⟨b, e, hk⟩ := hv
    exact ⟨b, e, h.is hk⟩
  | .sl k off len cap sz, v, hv => by
    rw [VR] at *
    obtain ⟨b, c, e, h1, h2, h3⟩ := hv
    refine ⟨b, c, e, h1, h2, ?_⟩
    rcases h3 with h3 | ⟨m, h3, h4⟩
    · rcases h k with h | h | h
      · rw [h] at h3; cases h3
      · exact .inl (h.trans h3)
      · exact .inl h
    · rcases h k with h | h | h
      · rw [h] at h3; cases h3
      · exact .inr ⟨m, h.trans h3, h4⟩
      · exact .inl h
  | .agg l, v, hv => by
    rw [VR] at *
    obtain ⟨vs, e, hl⟩ := hv
    exact ⟨vs, e, VRL.mono h l _ hl⟩
  | .tup l, v, hv => by
    rw [VR] at *
    obtain ⟨vs, e, hl⟩ := hv
    exact ⟨vs, e, VRL.mono h l _ hl⟩
  | .fn f x y, v, hv => by
    rw [VR] at *
    obtain ⟨vs, us, e, h1, h2⟩ := hv
    exact ⟨vs, us, e, VRL.mono h x _ h1, VRL.mono h y _ h2⟩
  | .es, v, hv => by rw [VR] at *; exact hv
  | .yl k, v, hv => by
    rw [VR] at *
    obtain ⟨b, e, hk⟩ := hv
    exact ⟨b, e, h.is hk⟩
  | .lp _ _ _ _ _ _ _, v, hv => by rw [VR] at hv; exact hv.elim
  | .df _, v, hv => by rw [VR] at hv; exact hv.elim
  | .ded, v, hv => by rw [VR] at hv; exact hv.elim
  | .mr k, v, hv => by
    rw [VR] at *
    obtain ⟨b, e, hk⟩ := hv
    exact ⟨b, e, h.is hk⟩
  | .mp _ _ _, v, hv => by rw [VR] at hv; exact hv.elim
  | .mi _ _ _ _, v, hv => by rw [VR] at hv; exact hv.elim
  | .m0, v, hv => by rw [VR] at hv; exact hv.elim
  | .top, v, hv => by rw [VR] at *; exact hv
theorem VRL.mono {ι ι' : Io} (h : Le ι ι') : ∀ (l : List AV) (vs : List Value), VRL ι l vs → VRL ι' l vs
  | [], vs, hv => by rw [VRL] at *; exact hv
  | a :: l, vs, hv => by
    rw [VRL] at *
    obtain ⟨v, us, e, h1, h2⟩ := hv
    exact ⟨v, us, e, VR.mono h a _ h1, VRL.mono h l _ h2⟩
end
theorem VRL_iff {ι : Io} : ∀ {l : List AV} {vs : List Value}, VRL ι l vs ↔ vs.length = l.length ∧ ∀ (i : Nat) (a : AV), l[i]? = some a → ∃ v, vs[i]? = some v ∧ VR ι a v
  | [], vs => by
    rw [VRL]
    constructor
    · rintro rfl; simp
    · rintro ⟨h, _⟩; exact List.eq_nil_of_length_eq_zero h
  | a :: l, vs => by
    rw [VRL]
    constructor
    · rintro ⟨v, us, rfl, h1, h2⟩
      obtain ⟨h3, h4⟩ := VRL_iff.1 h2
      refine ⟨by simp [h3], fun i b hb => ?_⟩
      cases i with
      | zero => simp at hb; subst hb; exact ⟨v, rfl, h1⟩
      | succ i => simp at hb; simpa using h4 i b hb
    · rintro ⟨h1, h2⟩
      cases vs with
      | nil => simp at h1
      | cons v us =>
        obtain ⟨u, hu, hr⟩ := h2 0 a rfl
        simp at hu; subst hu
        exact ⟨_, us, rfl, hr, VRL_iff.2 ⟨by simpa using h1, fun i b hb => by simpa using h2 (i + 1) b (by simpa using hb)⟩⟩
theorem VRL_mapV {ι : Io} : ∀ (vs : List Value), VRL ι (mapV vs) vs
  | [] => by rw [mapV, VRL]
  | v :: vs => by
    rw [mapV, VRL]
    exact ⟨v, vs, rfl, by rw [VR], VRL_mapV vs⟩
theorem mapV_eq (vs : List Value) : mapV vs = vs.map .v := by
  induction vs with
  | nil => rfl
  | cons v vs ih => simp [mapV, ih]
theorem VRL_app {ι : Io} : ∀ {l m : List AV} {vs us : List Value}, VRL ι l vs → VRL ι m us → VRL ι (l ++ m) (vs ++ us)
  | [], m, vs, us, h, k => by rw [VRL] at h; subst h; exact k
  | a :: l, m, vs, us, h, k => by
    rw [VRL] at h
    obtain ⟨v, ws, rfl, h1, h2⟩ := h
    rw [List.cons_append, List.cons_append, VRL]
    exact ⟨v, _, rfl, h1, VRL_app h2 k⟩
theorem allV_VRL {ι : Io} : ∀ {l : List AV} {vs us : List Value}, allV l = some vs → VRL ι l us → us = vs
  | [], vs, us, h, k => by rw [VRL] at k; simp [allV] at h; rw [k, h]
  | a :: l, vs, us, h, k => by
    rw [VRL] at k
    obtain ⟨v, ws, rfl, h1, h2⟩ := k
    cases a with
    | v y =>
      simp only [allV] at h
      split at h
      · rename_i ys hy
        cases h
        rw [VR] at h1
        rw [h1, allV_VRL hy h2]
      · cases h
    | _ => simp [allV] at h
theorem VR_mkAgg {ι : Io} {l : List AV} {vs : List Value} (h : VRL ι l vs) : VR ι (mkAgg l) (.agg vs.toArray) := by
  unfold mkAgg
  split
  · rename_i us hu
    rw [VR, allV_VRL hu h]
  · rw [VR]; exact ⟨_, rfl, by simpa using h⟩
theorem VR_mkTup {ι : Io} {l : List AV} {vs : List Value} (h : VRL ι l vs) : VR ι (mkTup l) (.tuple vs.toArray) := by
  unfold mkTup
  split
  · rename_i us hu
    rw [VR, allV_VRL hu h]
  · rw [VR]; exact ⟨_, rfl, by simpa using h⟩
theorem VR_mkFn {ι : Io} {f : Fn} {l m : List AV} {vs us : List Value} (h : VRL ι l vs) (k : VRL ι m us) : VR ι (mkFn f l m) (.func f vs.toArray us.toArray) := by
  unfold mkFn
  split
  · rename_i xs ys hx hy
    rw [VR, allV_VRL hx h, allV_VRL hy k]
  · rw [VR]; exact ⟨_, _, rfl, by simpa using h, by simpa using k⟩
theorem VR_cells {ι : Io} {a : AV} {v : Value} (h : VR ι a v) : VRL ι a.cells v.cells.toList := by
  cases a with
  | v x => rw [VR] at h; subst h; exact VRL_mapV _
  | agg l => rw [VR] at h; obtain ⟨vs, rfl, hl⟩ := h; exact hl
  | ptr k off =>
    have h' := h
    rw [VR] at h; obtain ⟨b, rfl, _⟩ := h
    show VRL ι [_] _
    rw [VRL]; exact ⟨_, [], rfl, h', by rw [VRL]⟩
  | sl k off len cap sz =>
    have h' := h
    rw [VR] at h; obtain ⟨b, c, rfl, _⟩ := h
    show VRL ι [_] _
    rw [VRL]; exact ⟨_, [], rfl, h', by rw [VRL]⟩
  | tup l =>
    have h' := h
    rw [VR] at h; obtain ⟨vs, rfl, hl⟩ := h
    show VRL ι [_] _
    rw [VRL]; exact ⟨_, [], rfl, h', by rw [VRL]⟩
  | fn f x y =>
    have h' := h
    rw [VR] at h; obtain ⟨vs, us, rfl, _⟩ := h
    show VRL ι [_] _
    rw [VRL]; exact ⟨_, [], rfl, h', by rw [VRL]⟩
  | es =>
    have h' := h
    rw [VR] at h; obtain ⟨b, c, rfl⟩ := h
    show VRL ι [_] _
    rw [VRL]; exact ⟨_, [], rfl, h', by rw [VRL]⟩
  | yl k =>
    have h' := h
    rw [VR] at h; obtain ⟨b, rfl, _⟩ := h
    show VRL ι [_] _
    rw [VRL]; exact ⟨_, [], rfl, h', by rw [VRL]⟩
  | lp => rw [VR] at h; exact h.elim
  | df => rw [VR] at h; exact h.elim
  | ded => rw [VR] at h; exact h.elim
  | mr k =>
    have h' := h
    rw [VR] at h; obtain ⟨b, rfl, _⟩ := h
    show VRL ι [_] _
    rw [VRL]; exact ⟨_, [], rfl, h', by rw [VRL]⟩
  | mp => rw [VR] at h; exact h.elim
  | mi => rw [VR] at h; exact h.elim
  | m0 => rw [VR] at h; exact h.elim
  | top =>
    have h' := h
    rw [VR] at h
    show VRL ι [_] _
    have e : v.cells.toList = [v] := by cases v <;> first | rfl | simp [Value.oneCell'] at h
    rw [e, VRL]; exact ⟨_, [], rfl, h', by rw [VRL]⟩
theorem oneCell_VR {ι : Io} {a : AV} {v : Value} (h : VR ι a v) (ho : oneCell a = true) : v.oneCell' = true := by
  cases a with
  | v x => rw [VR] at h; subst h; cases v <;> first | rfl | simp [oneCell] at ho
  | agg l => simp [oneCell] at ho
  | tup l => simp [oneCell] at ho
  | ptr k off => rw [VR] at h; obtain ⟨b, rfl, _⟩ := h; rfl
  | sl k off len cap sz => rw [VR] at h; obtain ⟨b, c, rfl, _⟩ := h; rfl
  | fn f x y => rw [VR] at h; obtain ⟨vs, us, rfl, _⟩ := h; rfl
  | yl k => rw [VR] at h; obtain ⟨b, rfl, _⟩ := h; rfl
  | es => rw [VR] at h; obtain ⟨b, c, rfl⟩ := h; rfl
  | lp => rw [VR] at h; exact h.elim
  | df => rw [VR] at h; exact h.elim
  | ded => rw [VR] at h; exact h.elim
  | mr k => rw [VR] at h; obtain ⟨b, rfl, _⟩ := h; rfl
  | mp => rw [VR] at h; exact h.elim
  | mi => rw [VR] at h; exact h.elim
  | m0 => rw [VR] at h; exact h.elim
  | top => rw [VR] at h; exact h
theorem allOne_VRL {ι : Io} : ∀ {l : List AV} {vs : List Value}, allOne l = true → VRL ι l vs → ∀ v ∈ vs, v.oneCell' = true
  | [], vs, _, h => by rw [VRL] at h; subst h; simp
  | a :: l, vs, ho, h => by
    rw [VRL] at h
    obtain ⟨v, us, rfl, h1, h2⟩ := h
    simp only [allOne] at ho
    split at ho
    · rename_i h3
      intro u hu
      rcases List.mem_cons.1 hu with rfl | hu
      · exact oneCell_VR h1 h3
      · exact allOne_VRL ho h2 u hu
    · cases ho
/-- What a program that asks nothing answers, whatever the world. -/
theorem ev?_run {α : Type} {P : Program} : ∀ {s : Sem α} {a : α}, ev? P s = some a → ∀ w, s.run P w = .ok a w
  | .pure x, a, h, w => by simp [ev?] at h; subst h; rfl
  | .program k, a, h, w => by rw [ev?] at h; rw [Sem.run]; exact ev?_run h w
  | .mark m k, a, h, w => by rw [ev?] at h; rw [Sem.run]; exact ev?_run h w
  | .load .., a, h, w => by simp [ev?] at h
  | .store .., a, h, w => by simp [ev?] at h
  | .new .., a, h, w => by simp [ev?] at h
  | .shape .., a, h, w => by simp [ev?] at h
  | .freeze .., a, h, w => by simp [ev?] at h
  | .frozen .., a, h, w => by simp [ev?] at h
  | .getObj .., a, h, w => by simp [ev?] at h
  | .setObj .., a, h, w => by simp [ev?] at h
  | .choose .., a, h, w => by simp [ev?] at h
  | .sys .., a, h, w => by simp [ev?] at h
  | .halt .., a, h, w => by simp [ev?] at h
theorem forceNat_eq {β : Type} (n : Nat) (k : Nat → β) : forceNat n k = k n := by cases n <;> rfl
theorem forceA_eq {β : Type} (a : AV) (k : AV → β) : forceA a k = k a := by
  cases a <;> first | rfl | skip
  rename_i x
  cases x <;> rfl
theorem putT_eq (N : Nat) (tm : T AV) (dst : Option Tmp) (a : AV) : putT N tm dst a = match dst with
  | none => some tm
  | some d => match Nat.blt d N with
    | true => T.set (some a) fuelT tm d
    | false => none := by
  unfold putT
  cases dst with
  | none => rfl
  | some d =>
    dsimp only
    cases Nat.blt d N
    · rfl
    · exact forceA_eq _ _
theorem forceInt_eq {β : Type} (n : Int) (k : Int → β) : forceInt n k = k n := by cases n <;> simp [forceInt, forceNat_eq]
theorem forceV_eq {β : Type} (v : Value) (k : Value → β) : forceV v k = k v := by
  cases v <;> simp only [forceV, forceInt_eq]
  split <;> rfl

/-! ### Rows -/
theorem takeL_of {α : Type} : ∀ (n : Nat) (l : List α), n ≤ l.length → takeL n l = some (l.take n) := by
  intro n
  induction n with
  | zero => intro l h; simp [takeL]
  | succ n ih =>
    intro l h
    cases l with
    | nil => simp at h
    | cons x l =>
      simp only [takeL]
      rw [ih l (by simpa using h)]
      simp
theorem dropL_of {α : Type} : ∀ (n : Nat) (l : List α), n ≤ l.length → dropL n l = some (l.drop n) := by
  intro n
  induction n with
  | zero => intro l h; simp [dropL]
  | succ n ih =>
    intro l h
    cases l with
    | nil => simp at h
    | cons x l =>
      simp only [dropL]
      rw [ih l (by simpa using h)]
      simp
theorem slice?_of {l l' : List AV} {o n : Nat} (h1 : l'.length = n) (h2 : o + n ≤ l.length) (h3 : ∀ i, i < n → l'[i]? = l[o + i]?) : slice? l o n = some l' := by
  unfold slice?
  rw [dropL_of _ _ (by omega)]
  dsimp only
  rw [takeL_of _ _ (by rw [List.length_drop]; omega)]
  congr 1
  apply List.ext_getElem?
  intro i
  by_cases hi : i < n
  · rw [List.getElem?_take_of_lt hi, List.getElem?_drop, h3 i hi]
  · rw [List.getElem?_eq_none (by rw [List.length_take, List.length_drop]; omega), List.getElem?_eq_none (by omega)]
theorem setL_of {α : Type} (v : α) : ∀ (l : List α) (k : Nat), k < l.length → setL v l k = some (l.set k v) := by
  intro l
  induction l with
  | nil => intro k h; simp at h
  | cons x l ih =>
    intro k h
    cases k with
    | zero => simp [setL]
    | succ k =>
      simp only [setL]
      rw [ih k (by simpa using h)]
      simp
theorem setsL_ex {α : Type} : ∀ (vs l : List α) (k : Nat), k + vs.length ≤ l.length → ∃ l', setsL l k vs = some l' := by
  intro vs
  induction vs with
  | nil => intro l k h; exact ⟨l, rfl⟩
  | cons v vs ih =>
    intro l k h
    simp only [setsL]
    rw [setL_of v l k (by simp at h; omega)]
    exact ih _ _ (by simp at h ⊢; omega)
theorem toL_len (ty : Nat) (ex : Bool) (n : Nat) (pat : List AV) (t : T AV) : (Row.cells ty ex n pat t).toL.length = n := by simp [Row.toL]
theorem toL_get {ty : Nat} {ex : Bool} {n : Nat} {pat : List AV} {t : T AV} {i : Nat} (h : i < n) : (Row.cells ty ex n pat t).toL[i]? = some (cellAt pat t i) := by simp [Row.toL, h]
theorem toL_no {ty : Nat} {ex : Bool} {n : Nat} {pat : List AV} {t : T AV} {i : Nat} (h : n ≤ i) : (Row.cells ty ex n pat t).toL[i]? = none := List.getElem?_eq_none (by rw [toL_len]; exact h)
theorem cellsFrom_len (pat : List AV) (t : T AV) : ∀ (n off : Nat), (cellsFrom pat t off n).length = n
  | 0, _ => rfl
  | n + 1, off => by rw [cellsFrom, forceA_eq, forceNat_eq, List.length_cons, cellsFrom_len pat t n]
theorem cellsFrom_get (pat : List AV) (t : T AV) : ∀ (n off i : Nat), i < n → (cellsFrom pat t off n)[i]? = some (cellAt pat t (off + i))
  | 0, _, _, h => absurd h (by omega)
  | n + 1, off, i, h => by
    rw [cellsFrom, forceA_eq, forceNat_eq]
    cases i with
    | zero => rfl
    | succ i =>
      rw [List.getElem?_cons_succ, cellsFrom_get pat t n (off + 1) i (by omega)]
      congr 2; omega
theorem rowSlice_ok {r : Row} {off n : Nat} {cs : List AV} (h : rowSlice r off n = some cs) : slice? r.toL off n = some cs := by
  unfold rowSlice at h
  split at h
  · split at h
    · rename_i ty ex m pat t hle
      cases h
      have hle' := Nat.le_of_ble_eq_true hle
      refine slice?_of (cellsFrom_len _ _ _ _) (by rw [toL_len]; exact hle') fun i hi => ?_
      rw [cellsFrom_get _ _ _ _ _ hi, toL_get (by omega)]
    · cases h
  · cases h
theorem rowGet_ok {r : Row} {i : Nat} {a : AV} (h : rowGet r i = some a) : getL r.toL i = some a := by
  unfold rowGet at h
  split at h
  · split at h
    · rename_i ty ex m pat t hlt
      cases h
      rw [getL_eq, toL_get (by simpa [Nat.blt_eq] using hlt)]
    · cases h
  · cases h
theorem setsT_get : ∀ (l : List AV) (t t' : T AV) (off : Nat), setsT t off l = some t' → ∀ i, t'.get i = if off ≤ i ∧ i < off + l.length then l[i - off]? else t.get i
  | [], t, t', off, h, i => by simp [setsT] at h; subst h; rw [if_neg (by simp)]
  | a :: l, t, t', off, h, i => by
    rw [setsT, forceA_eq] at h
    split at h
    · rename_i t1 h1
      rw [forceNat_eq] at h
      have ih := setsT_get l t1 t' (off + 1) h i
      rw [ih, List.length_cons]
      by_cases hi : off + 1 ≤ i ∧ i < off + 1 + l.length
      · rw [if_pos hi, if_pos (by omega), show i - off = (i - (off + 1)) + 1 by omega, List.getElem?_cons_succ]
      · rw [if_neg hi, T.set_get _ _ _ _ _ h1]
        by_cases e : i = off
        · subst e
          rw [if_pos rfl, if_pos (by omega)]; simp
        · rw [if_neg e, if_neg (by omega)]
    · cases h
theorem cellAt_some {pat : List AV} {t : T AV} {i : Nat} {a : AV} (h : t.get i = some a) : cellAt pat t i = a := by simp [cellAt, h]
theorem cellAt_same {pat : List AV} {t t' : T AV} {i : Nat} (h : t'.get i = t.get i) : cellAt pat t' i = cellAt pat t i := by simp [cellAt, h]
theorem rowSets_ok {r r' : Row} {off : Nat} {cs : List AV} (h : rowSets r off cs = some r') : (∃ m p t, r' = .cells r.ty r.ex m p t) ∧ setsL r.toL off cs = some r'.toL := by
  unfold rowSets at h
  split at h
  · rename_i ty ex m pat t
    split at h
    · rename_i t' hle hs
      cases h
      have hle' := Nat.le_of_ble_eq_true hle
      refine ⟨⟨_, _, _, rfl⟩, ?_⟩
      obtain ⟨l', hl'⟩ := setsL_ex cs (Row.cells ty ex m pat t).toL off (by rw [toL_len]; exact hle')
      rw [hl']
      congr 1
      obtain ⟨_, h2, h3⟩ := setsL_some _ _ _ _ hl'
      apply List.ext_getElem?
      intro i
      rw [h3 i]
      have hg := setsT_get _ _ _ _ hs i
      by_cases hi : i < m
      · rw [toL_get hi, toL_get hi]
        by_cases hc : off ≤ i ∧ i < off + cs.length
        · rw [if_pos hc] at hg ⊢
          obtain ⟨a, ha⟩ : ∃ a, cs[i - off]? = some a := ⟨_, List.getElem?_eq_getElem (by omega)⟩
          rw [ha] at hg ⊢
          rw [cellAt_some hg]
        · rw [if_neg hc] at hg ⊢
          rw [cellAt_same hg]
      · rw [toL_no (by omega), toL_no (by omega), if_neg (by omega)]
    · cases h
  · cases h
theorem rowApp_ok {b : Bool} {ty : Nat} {ex : Bool} {m : Nat} {pat : List AV} {t : T AV} {r' : Row} {cs : List AV} (h : rowApp b (.cells ty ex m pat t) cs = some r') : (∃ m p t, r' = .cells ty b m p t) ∧ r'.toL = (Row.cells ty ex m pat t).toL ++ cs := by
  unfold rowApp at h
  dsimp only at h
  split at h
  · rename_i t' hs
    rw [forceNat_eq] at h
    cases h
    refine ⟨⟨_, _, _, rfl⟩, ?_⟩
    apply List.ext_getElem?
    intro i
    have hg := setsT_get _ _ _ _ hs i
    by_cases hi : i < m
    · rw [List.getElem?_append_left (by rw [toL_len]; exact hi), toL_get hi, toL_get (by omega)]
      rw [if_neg (by omega)] at hg
      rw [cellAt_same hg]
    · rw [List.getElem?_append_right (by rw [toL_len]; omega), toL_len]
      by_cases hc : i < m + cs.length
      · rw [if_pos (by omega)] at hg
        obtain ⟨a, ha⟩ : ∃ a, cs[i - m]? = some a := ⟨_, List.getElem?_eq_getElem (by omega)⟩
        rw [ha] at hg ⊢
        rw [toL_get hc, cellAt_some hg]
      · rw [toL_no (by omega), List.getElem?_eq_none (by omega)]
  · cases h
theorem rowOf_ok {ty : Nat} {ex : Bool} {l : List AV} {r : Row} (h : rowOf ty ex l = some r) : (∃ m p t, r = .cells ty ex m p t) ∧ r.toL = l := by
  obtain ⟨h1, h2⟩ := rowApp_ok h
  exact ⟨h1, by rw [h2]; simp [Row.toL]⟩
theorem newL_some {g g' : G} {ty : Nat} {ex : Bool} {l : List AV} {k : Nat} (h : g.newL ty ex l = some (k, g')) : ∃ m p t, g.new (.cells ty ex m p t) = some (k, g') ∧ (Row.cells ty ex m p t).toL = l := by
  unfold G.newL at h
  split at h
  · rename_i r hr
    obtain ⟨⟨m, p, t, rfl⟩, h2⟩ := rowOf_ok hr
    exact ⟨m, p, t, h, h2⟩
  · cases h
end Go.Proofs.YtjblkeofjkdpbaaGreatDoor.Eng
