/- The evaluator's plain laws: trees, lists, values by names. No condition. -/
import Derived.Test.YtoifejinppjeeaaEng
import Derived.Deep.MidRow
import Derived.Deep.AppendSrc
import Derived.Laws.MakeOwn
import Derived.Laws.AppendOwn
namespace Go.Proofs.Ytoifejinppjeeaa.Eng
open Go
set_option linter.unusedVariables false
set_option linter.unusedSimpArgs false

/-! ### Trees -/
section
variable {α : Type}
theorem beq_ff {a b : Nat} (h : ¬ a = b) : Nat.beq a b = false := by
  cases e : Nat.beq a b with
  | false => rfl
  | true => exact absurd (Nat.eq_of_beq_eq_true e) h
theorem beq_tt {a b : Nat} (h : Nat.beq a b = true) : a = b := Nat.eq_of_beq_eq_true h
theorem T.get_nil (k : Nat) : (T.nil : T α).get k = none := rfl
theorem T.get_node (l : T α) (v : Option α) (r : T α) (k : Nat) : (T.node l v r).get k = if k = 0 then v else if k % 2 = 1 then l.get (k / 2) else r.get (k / 2 - 1) := by
  rw [T.get]
  by_cases h0 : k = 0
  · subst h0; rfl
  · rw [if_neg h0, beq_ff h0]
    dsimp only
    by_cases h1 : k % 2 = 1
    · rw [if_pos h1, show Nat.beq (k % 2) 1 = true by rw [h1]; rfl]
    · rw [if_neg h1, beq_ff h1]
theorem T.set_get (v : Option α) : ∀ (f : Nat) (t t' : T α) (k : Nat), T.set v f t k = some t' → ∀ j, t'.get j = if j = k then v else t.get j
  | 0, t, t', k, h => by simp [T.set] at h
  | f + 1, .nil, t', k, h => by
    rw [T.set] at h
    intro j
    by_cases h0 : k = 0
    · subst h0
      simp at h
      subst h
      rw [T.get_node]
      by_cases hj : j = 0
      · simp [hj]
      · simp [hj, T.get_nil]
    · rw [beq_ff h0] at h
      dsimp only at h
      by_cases h1 : k % 2 = 1
      · rw [show Nat.beq (k % 2) 1 = true by rw [h1]; rfl] at h
        dsimp only at h
        split at h
        · rename_i l hl
          cases h
          rw [T.get_node]
          have ih := T.set_get v f _ _ _ hl
          by_cases hj : j = 0
          · rw [if_pos hj, if_neg (by omega)]; rfl
          · rw [if_neg hj]
            by_cases hj1 : j % 2 = 1
            · rw [if_pos hj1, ih]
              by_cases e : j = k
              · subst e; simp
              · rw [if_neg e, if_neg (by omega)]; rfl
            · rw [if_neg hj1, if_neg (by omega)]; rfl
        · cases h
      · rw [beq_ff h1] at h
        dsimp only at h
        split at h
        · rename_i l hl
          cases h
          rw [T.get_node]
          have ih := T.set_get v f _ _ _ hl
          by_cases hj : j = 0
          · rw [if_pos hj, if_neg (by omega)]; rfl
          · rw [if_neg hj]
            by_cases hj1 : j % 2 = 1
            · rw [if_pos hj1, if_neg (by omega)]; rfl
            · rw [if_neg hj1, ih]
              by_cases e : j = k
              · subst e; simp
              · rw [if_neg e, if_neg (by omega)]; rfl
        · cases h
  | f + 1, .node l x r, t', k, h => by
    rw [T.set] at h
    intro j
    by_cases h0 : k = 0
    · subst h0
      simp at h
      subst h
      rw [T.get_node, T.get_node]
      by_cases hj : j = 0
      · simp [hj]
      · simp [hj]
    · rw [beq_ff h0] at h
      dsimp only at h
      by_cases h1 : k % 2 = 1
      · rw [show Nat.beq (k % 2) 1 = true by rw [h1]; rfl] at h
        dsimp only at h
        split at h
        · rename_i l' hl
          cases h
          rw [T.get_node, T.get_node]
          have ih := T.set_get v f _ _ _ hl
          by_cases hj : j = 0
          · rw [if_pos hj, if_neg (by omega), if_pos hj]
          · rw [if_neg hj, if_neg hj]
            by_cases hj1 : j % 2 = 1
            · rw [if_pos hj1, if_pos hj1, ih]
              by_cases e : j = k
              · subst e; simp
              · rw [if_neg e, if_neg (by omega)]
            · rw [if_neg hj1, if_neg hj1, if_neg (by omega)]
        · cases h
      · rw [beq_ff h1] at h
        dsimp only at h
        split at h
        · rename_i l' hl
          cases h
          rw [T.get_node, T.get_node]
          have ih := T.set_get v f _ _ _ hl
          by_cases hj : j = 0
          · rw [if_pos hj, if_neg (by omega), if_pos hj]
          · rw [if_neg hj, if_neg hj]
            by_cases hj1 : j % 2 = 1
            · rw [if_pos hj1, if_pos hj1, if_neg (by omega)]
            · rw [if_neg hj1, if_neg hj1, ih]
              by_cases e : j = k
              · subst e; simp
              · rw [if_neg e, if_neg (by omega)]
        · cases h

/-! ### Lists -/
theorem getL_eq (l : List α) : ∀ k, getL l k = l[k]? := by
  induction l with
  | nil => intro k; simp [getL]
  | cons x l ih => intro k; cases k <;> simp [getL, ih]
theorem setL_some (v : α) : ∀ (l : List α) (k : Nat) (l' : List α), setL v l k = some l' → k < l.length ∧ l' = l.set k v := by
  intro l
  induction l with
  | nil => intro k l' h; simp [setL] at h
  | cons x l ih =>
    intro k l' h
    cases k with
    | zero => simp [setL] at h; subst h; simp
    | succ k =>
      simp only [setL] at h
      split at h
      · rename_i ys hy
        cases h
        obtain ⟨h1, h2⟩ := ih _ _ hy
        subst h2
        simp [h1]
      · cases h
theorem takeL_some : ∀ (n : Nat) (l l' : List α), takeL n l = some l' → n ≤ l.length ∧ l' = l.take n := by
  intro n
  induction n with
  | zero => intro l l' h; simp [takeL] at h; subst h; simp
  | succ n ih =>
    intro l l' h
    cases l with
    | nil => simp [takeL] at h
    | cons x l =>
      simp only [takeL] at h
      split at h
      · rename_i ys hy
        cases h
        obtain ⟨h1, h2⟩ := ih _ _ hy
        subst h2
        simp [h1]
      · cases h
theorem dropL_some : ∀ (n : Nat) (l l' : List α), dropL n l = some l' → n ≤ l.length ∧ l' = l.drop n := by
  intro n
  induction n with
  | zero => intro l l' h; simp [dropL] at h; subst h; simp
  | succ n ih =>
    intro l l' h
    cases l with
    | nil => simp [dropL] at h
    | cons x l =>
      simp only [dropL] at h
      obtain ⟨h1, h2⟩ := ih _ _ h
      simp [h1, h2]
theorem appL_some : ∀ (l m l' : List α), appL l m = some l' → l' = l ++ m := by
  intro l
  induction l with
  | nil => intro m l' h; simp [appL] at h; simp [h]
  | cons x l ih =>
    intro m l' h
    simp only [appL] at h
    split at h
    · rename_i ys hy
      cases h
      rw [ih _ _ hy]; rfl
    · cases h
theorem repL_some (x : List α) : ∀ (n : Nat) (l : List α), repL x n = some l → l = (List.replicate n x).flatten := by
  intro n
  induction n with
  | zero => intro l h; simp [repL] at h; simp [h]
  | succ n ih =>
    intro l h
    simp only [repL] at h
    split at h
    · rename_i ys hy
      rw [appL_some _ _ _ h, ih _ hy, List.replicate_succ, List.flatten_cons]
    · cases h
theorem setsL_some : ∀ (vs l : List α) (k : Nat) (l' : List α), setsL l k vs = some l' → (vs = [] ∨ k + vs.length ≤ l.length) ∧ l'.length = l.length ∧
    ∀ i, l'[i]? = if k ≤ i ∧ i < k + vs.length then vs[i - k]? else l[i]? := by
  intro vs
  induction vs with
  | nil => intro l k l' h; simp [setsL] at h; subst h; refine ⟨.inl rfl, rfl, fun i => ?_⟩; rw [if_neg (by simp)]
  | cons v vs ih =>
    intro l k l' h
    simp only [setsL] at h
    split at h
    · rename_i m hm
      obtain ⟨h1, rfl⟩ := setL_some _ _ _ _ hm
      obtain ⟨h2, h3, h4⟩ := ih _ _ _ h
      rw [List.length_set] at h3
      refine ⟨.inr ?_, h3, fun i => ?_⟩
      · rcases h2 with h2 | h2
        · subst h2; simp; omega
        · rw [List.length_set] at h2; simp; omega
      · rw [h4 i]
        simp only [List.length_cons]
        by_cases hik : i = k
        · subst hik
          rw [if_neg (by omega), if_pos (by omega)]
          simp [h1]
        · by_cases hi : k + 1 ≤ i ∧ i < k + 1 + vs.length
          · rw [if_pos hi, if_pos (by omega), show i - k = (i - (k + 1)) + 1 by omega]
            simp
          · rw [if_neg hi, if_neg (by omega), List.getElem?_set_ne (by omega)]
    · cases h
theorem slice?_some {l l' : List AV} {o n : Nat} (h : slice? l o n = some l') : l'.length = n ∧ o + n ≤ l.length ∧ ∀ i, i < n → l'[i]? = l[o + i]? := by
  unfold slice? at h
  split at h
  · rename_i m hm
    obtain ⟨h1, rfl⟩ := dropL_some _ _ _ hm
    obtain ⟨h2, rfl⟩ := takeL_some _ _ _ h
    rw [List.length_drop] at h2
    refine ⟨by simp; omega, by omega, fun i hi => ?_⟩
    rw [List.getElem?_take_of_lt hi, List.getElem?_drop]
  · cases h
end

/-! ### Values by names -/
inductive Loc where
  | un
  | dead
  | at_ (b m : Nat)
abbrev Io := Nat → Loc
/-- A name's block, or none any more. -/
def Loc.is (l : Loc) (b : Nat) : Prop := l = .dead ∨ ∃ m, l = .at_ b m
mutual
def VR (ι : Io) : AV → Value → Prop
  | .v x, y => y = x
  | .ptr k off, y => ∃ b, y = .pointer (some ⟨b, off, none⟩) ∧ (ι k).is b
  | .sl k off len cap sz, y => ∃ b c, y = .slice (some ⟨b, off, none⟩) len c ∧ len ≤ c ∧ (∀ c', cap = some c' → c = c') ∧ (ι k = .dead ∨ ∃ m, ι k = .at_ b m ∧ (cap = none → off + c * sz ≤ m))
  | .agg l, y => ∃ vs, y = .agg vs ∧ VRL ι l vs.toList
  | .tup l, y => ∃ vs, y = .tuple vs ∧ VRL ι l vs.toList
  | .fn f a b, y => ∃ vs us, y = .func f vs us ∧ VRL ι a vs.toList ∧ VRL ι b us.toList
  | .es, y => ∃ b c, y = .slice (some b) 0 c
  | .yl k, y => ∃ b, y = .func (.yield b) #[] #[] ∧ (ι k).is b
  | .lp _ _ _ _ _ _ _, _ => False
  | .df _, _ => False
def VRL (ι : Io) : List AV → List Value → Prop
  | [], vs => vs = []
  | a :: l, vs => ∃ v us, vs = v :: us ∧ VR ι a v ∧ VRL ι l us
end
/-- Names may come to be, and be lost; else they stand. -/
def Le (ι ι' : Io) : Prop := ∀ k, ι k = .un ∨ ι' k = ι k ∨ ι' k = .dead
theorem Le.refl (ι : Io) : Le ι ι := fun _ => .inr (.inl rfl)
theorem Le.is {ι ι' : Io} (h : Le ι ι') {k b : Nat} (hk : (ι k).is b) : (ι' k).is b := by
  rcases h k with h | h | h
  · rcases hk with hk | ⟨m, hk⟩ <;> rw [h] at hk <;> cases hk
  · rw [h]; exact hk
  · exact .inl h
theorem Le.trans {a b c : Io} (h : Le a b) (k : Le b c) (hun : ∀ i, a i ≠ .un → b i ≠ .un) : Le a c := fun i => by
  rcases h i with h1 | h1 | h1
  · exact .inl h1
  · rcases k i with k1 | k1 | k1
    · by_cases e : a i = .un
      · exact .inl e
      · exact absurd k1 (hun i e)
    · exact .inr (.inl (k1.trans h1))
    · exact .inr (.inr k1)
  · rcases k i with k1 | k1 | k1
    · rw [h1] at k1; cases k1
    · exact .inr (.inr (k1.trans h1))
    · exact .inr (.inr k1)
theorem Le.un {a b : Io} (h : Le a b) {i : Nat} (hi : a i ≠ .un) : b i ≠ .un := by
  rcases h i with h | h | h
  · exact absurd h hi
  · rw [h]; exact hi
  · rw [h]; intro e; cases e
theorem Le.tr {a b c : Io} (h : Le a b) (k : Le b c) : Le a c := h.trans k fun _ hi => h.un hi
mutual
theorem VR.mono {ι ι' : Io} (h : Le ι ι') : ∀ (a : AV) (v : Value), VR ι a v → VR ι' a v
  | .v x, v, hv => by rw [VR] at *; exact hv
  | .ptr k off, v, hv => by
    rw [VR] at *
    obtain ⟨b, e, hk⟩ := hv
    exact ⟨b, e, h.is hk⟩
  | .sl k off len cap sz, v, hv => by
    rw [VR] at *
    obtain ⟨b, c, e, h1, h2, h3⟩ := hv
    refine ⟨b, c, e, h1, h2, ?_⟩
    rcases h3 with h3 | ⟨m, h3, h4⟩
    · rcases h k with h | h | h
      · rw [h] at h3; cases h3
      · exact .inl (h.trans h3)
      · exact .inl h
    · rcases h k with h | h | h
      · rw [h] at h3; cases h3
      · exact .inr ⟨m, h.trans h3, h4⟩
      · exact .inl h
  | .agg l, v, hv => by
    rw [VR] at *
    obtain ⟨vs, e, hl⟩ := hv
    exact ⟨vs, e, VRL.mono h l _ hl⟩
  | .tup l, v, hv => by
    rw [VR] at *
    obtain ⟨vs, e, hl⟩ := hv
    exact ⟨vs, e, VRL.mono h l _ hl⟩
  | .fn f x y, v, hv => by
    rw [VR] at *
    obtain ⟨vs, us, e, h1, h2⟩ := hv
    exact ⟨vs, us, e, VRL.mono h x _ h1, VRL.mono h y _ h2⟩
  | .es, v, hv => by rw [VR] at *; exact hv
  | .yl k, v, hv => by
    rw [VR] at *
    obtain ⟨b, e, hk⟩ := hv
    exact ⟨b, e, h.is hk⟩
  | .lp _ _ _ _ _ _ _, v, hv => by rw [VR] at hv; exact hv.elim
  | .df _, v, hv => by rw [VR] at hv; exact hv.elim
theorem VRL.mono {ι ι' : Io} (h : Le ι ι') : ∀ (l : List AV) (vs : List Value), VRL ι l vs → VRL ι' l vs
  | [], vs, hv => by rw [VRL] at *; exact hv
  | a :: l, vs, hv => by
    rw [VRL] at *
    obtain ⟨v, us, e, h1, h2⟩ := hv
    exact ⟨v, us, e, VR.mono h a _ h1, VRL.mono h l _ h2⟩
end
theorem VRL_iff {ι : Io} : ∀ {l : List AV} {vs : List Value}, VRL ι l vs ↔ vs.length = l.length ∧ ∀ (i : Nat) (a : AV), l[i]? = some a → ∃ v, vs[i]? = some v ∧ VR ι a v
  | [], vs => by
    rw [VRL]
    constructor
    · rintro rfl; simp
    · rintro ⟨h, _⟩; exact List.eq_nil_of_length_eq_zero h
  | a :: l, vs => by
    rw [VRL]
    constructor
    · rintro ⟨v, us, rfl, h1, h2⟩
      obtain ⟨h3, h4⟩ := VRL_iff.1 h2
      refine ⟨by simp [h3], fun i b hb => ?_⟩
      cases i with
      | zero => simp at hb; subst hb; exact ⟨v, rfl, h1⟩
      | succ i => simp at hb; simpa using h4 i b hb
    · rintro ⟨h1, h2⟩
      cases vs with
      | nil => simp at h1
      | cons v us =>
        obtain ⟨u, hu, hr⟩ := h2 0 a rfl
        simp at hu; subst hu
        exact ⟨_, us, rfl, hr, VRL_iff.2 ⟨by simpa using h1, fun i b hb => by simpa using h2 (i + 1) b (by simpa using hb)⟩⟩
theorem VRL_mapV {ι : Io} : ∀ (vs : List Value), VRL ι (mapV vs) vs
  | [] => by rw [mapV, VRL]
  | v :: vs => by
    rw [mapV, VRL]
    exact ⟨v, vs, rfl, by rw [VR], VRL_mapV vs⟩
theorem mapV_eq (vs : List Value) : mapV vs = vs.map .v := by
  induction vs with
  | nil => rfl
  | cons v vs ih => simp [mapV, ih]
theorem VRL_app {ι : Io} : ∀ {l m : List AV} {vs us : List Value}, VRL ι l vs → VRL ι m us → VRL ι (l ++ m) (vs ++ us)
  | [], m, vs, us, h, k => by rw [VRL] at h; subst h; exact k
  | a :: l, m, vs, us, h, k => by
    rw [VRL] at h
    obtain ⟨v, ws, rfl, h1, h2⟩ := h
    rw [List.cons_append, List.cons_append, VRL]
    exact ⟨v, _, rfl, h1, VRL_app h2 k⟩
theorem allV_VRL {ι : Io} : ∀ {l : List AV} {vs us : List Value}, allV l = some vs → VRL ι l us → us = vs
  | [], vs, us, h, k => by rw [VRL] at k; simp [allV] at h; rw [k, h]
  | a :: l, vs, us, h, k => by
    rw [VRL] at k
    obtain ⟨v, ws, rfl, h1, h2⟩ := k
    cases a with
    | v y =>
      simp only [allV] at h
      split at h
      · rename_i ys hy
        cases h
        rw [VR] at h1
        rw [h1, allV_VRL hy h2]
      · cases h
    | _ => simp [allV] at h
theorem VR_mkAgg {ι : Io} {l : List AV} {vs : List Value} (h : VRL ι l vs) : VR ι (mkAgg l) (.agg vs.toArray) := by
  unfold mkAgg
  split
  · rename_i us hu
    rw [VR, allV_VRL hu h]
  · rw [VR]; exact ⟨_, rfl, by simpa using h⟩
theorem VR_mkTup {ι : Io} {l : List AV} {vs : List Value} (h : VRL ι l vs) : VR ι (mkTup l) (.tuple vs.toArray) := by
  unfold mkTup
  split
  · rename_i us hu
    rw [VR, allV_VRL hu h]
  · rw [VR]; exact ⟨_, rfl, by simpa using h⟩
theorem VR_mkFn {ι : Io} {f : Fn} {l m : List AV} {vs us : List Value} (h : VRL ι l vs) (k : VRL ι m us) : VR ι (mkFn f l m) (.func f vs.toArray us.toArray) := by
  unfold mkFn
  split
  · rename_i xs ys hx hy
    rw [VR, allV_VRL hx h, allV_VRL hy k]
  · rw [VR]; exact ⟨_, _, rfl, by simpa using h, by simpa using k⟩
theorem VR_cells {ι : Io} {a : AV} {v : Value} (h : VR ι a v) : VRL ι a.cells v.cells.toList := by
  cases a with
  | v x => rw [VR] at h; subst h; exact VRL_mapV _
  | agg l => rw [VR] at h; obtain ⟨vs, rfl, hl⟩ := h; exact hl
  | ptr k off =>
    have h' := h
    rw [VR] at h; obtain ⟨b, rfl, _⟩ := h
    show VRL ι [_] _
    rw [VRL]; exact ⟨_, [], rfl, h', by rw [VRL]⟩
  | sl k off len cap sz =>
    have h' := h
    rw [VR] at h; obtain ⟨b, c, rfl, _⟩ := h
    show VRL ι [_] _
    rw [VRL]; exact ⟨_, [], rfl, h', by rw [VRL]⟩
  | tup l =>
    have h' := h
    rw [VR] at h; obtain ⟨vs, rfl, hl⟩ := h
    show VRL ι [_] _
    rw [VRL]; exact ⟨_, [], rfl, h', by rw [VRL]⟩
  | fn f x y =>
    have h' := h
    rw [VR] at h; obtain ⟨vs, us, rfl, _⟩ := h
    show VRL ι [_] _
    rw [VRL]; exact ⟨_, [], rfl, h', by rw [VRL]⟩
  | es =>
    have h' := h
    rw [VR] at h; obtain ⟨b, c, rfl⟩ := h
    show VRL ι [_] _
    rw [VRL]; exact ⟨_, [], rfl, h', by rw [VRL]⟩
  | yl k =>
    have h' := h
    rw [VR] at h; obtain ⟨b, rfl, _⟩ := h
    show VRL ι [_] _
    rw [VRL]; exact ⟨_, [], rfl, h', by rw [VRL]⟩
  | lp => rw [VR] at h; exact h.elim
  | df => rw [VR] at h; exact h.elim
theorem oneCell_VR {ι : Io} {a : AV} {v : Value} (h : VR ι a v) (ho : oneCell a = true) : v.oneCell' = true := by
  cases a with
  | v x => rw [VR] at h; subst h; cases v <;> first | rfl | simp [oneCell] at ho
  | agg l => simp [oneCell] at ho
  | tup l => simp [oneCell] at ho
  | ptr k off => rw [VR] at h; obtain ⟨b, rfl, _⟩ := h; rfl
  | sl k off len cap sz => rw [VR] at h; obtain ⟨b, c, rfl, _⟩ := h; rfl
  | fn f x y => rw [VR] at h; obtain ⟨vs, us, rfl, _⟩ := h; rfl
  | yl k => rw [VR] at h; obtain ⟨b, rfl, _⟩ := h; rfl
  | es => rw [VR] at h; obtain ⟨b, c, rfl⟩ := h; rfl
  | lp => rw [VR] at h; exact h.elim
  | df => rw [VR] at h; exact h.elim
theorem allOne_VRL {ι : Io} : ∀ {l : List AV} {vs : List Value}, allOne l = true → VRL ι l vs → ∀ v ∈ vs, v.oneCell' = true
  | [], vs, _, h => by rw [VRL] at h; subst h; simp
  | a :: l, vs, ho, h => by
    rw [VRL] at h
    obtain ⟨v, us, rfl, h1, h2⟩ := h
    simp only [allOne] at ho
    split at ho
    · rename_i h3
      intro u hu
      rcases List.mem_cons.1 hu with rfl | hu
      · exact oneCell_VR h1 h3
      · exact allOne_VRL ho h2 u hu
    · cases ho
/-- What a program that asks nothing answers, whatever the world. -/
theorem ev?_run {α : Type} {P : Program} : ∀ {s : Sem α} {a : α}, ev? P s = some a → ∀ w, s.run P w = .ok a w
  | .pure x, a, h, w => by simp [ev?] at h; subst h; rfl
  | .program k, a, h, w => by rw [ev?] at h; rw [Sem.run]; exact ev?_run h w
  | .mark m k, a, h, w => by rw [ev?] at h; rw [Sem.run]; exact ev?_run h w
  | .load .., a, h, w => by simp [ev?] at h
  | .store .., a, h, w => by simp [ev?] at h
  | .new .., a, h, w => by simp [ev?] at h
  | .shape .., a, h, w => by simp [ev?] at h
  | .freeze .., a, h, w => by simp [ev?] at h
  | .frozen .., a, h, w => by simp [ev?] at h
  | .getObj .., a, h, w => by simp [ev?] at h
  | .setObj .., a, h, w => by simp [ev?] at h
  | .choose .., a, h, w => by simp [ev?] at h
  | .sys .., a, h, w => by simp [ev?] at h
  | .halt .., a, h, w => by simp [ev?] at h
theorem forceNat_eq {β : Type} (n : Nat) (k : Nat → β) : forceNat n k = k n := by cases n <;> rfl
theorem forceInt_eq {β : Type} (n : Int) (k : Int → β) : forceInt n k = k n := by cases n <;> simp [forceInt, forceNat_eq]
theorem forceV_eq {β : Type} (v : Value) (k : Value → β) : forceV v k = k v := by
  cases v <;> simp only [forceV, forceInt_eq]
  split <;> rfl
end Go.Proofs.Ytoifejinppjeeaa.Eng
