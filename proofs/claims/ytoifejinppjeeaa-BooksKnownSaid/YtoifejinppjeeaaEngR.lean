/- An evaluation cut into parts: the statements of the top function's body, some at a time. No condition. -/
import Derived.Test.YtoifejinppjeeaaEngQ
namespace Go.Proofs.Ytoifejinppjeeaa.Eng
open Go Go.RowKit
set_option linter.unusedVariables false
set_option linter.unusedSimpArgs false
/-- The statements of a body, one after the other. -/
def flat : Code → List Code
  | .seq a b => flat a ++ flat b
  | .scope c => flat c
  | c => [c]
section
variable (P : Program) (call : Cl → List AV → G → Option (AV × G)) (N : Nat)
noncomputable def evList (lf : Nat) (ro : Bool) : List Code → T AV → List Nat → G → Option (Ex × T AV × List Nat × G)
  | [], tm, mk, g => some (.normal, tm, mk, g)
  | c :: cs, tm, mk, g => match evCode P call N lf ro c tm mk g with
    | some (.normal, tm, mk, g) => evList lf ro cs tm mk g
    | r => r
end
section
variable {P : Program} {call : Cl → List AV → G → Option (AV × G)} {N : Nat} {lf : Nat} {ro : Bool}
theorem evList_append : ∀ (xs ys : List Code) (tm : T AV) (mk : List Nat) (g : G), evList P call N lf ro (xs ++ ys) tm mk g = (match evList P call N lf ro xs tm mk g with
    | some (.normal, tm, mk, g) => evList P call N lf ro ys tm mk g
    | r => r)
  | [], ys, tm, mk, g => rfl
  | c :: xs, ys, tm, mk, g => by
    simp only [List.cons_append, evList]
    cases h : evCode P call N lf ro c tm mk g with
    | none => rfl
    | some r =>
      obtain ⟨e, tm1, mk1, g1⟩ := r
      cases e with
      | normal => exact evList_append xs ys tm1 mk1 g1
      | exit id => rfl
      | ret => rfl
theorem evList_one (c : Code) (tm : T AV) (mk : List Nat) (g : G) : evList P call N lf ro [c] tm mk g = evCode P call N lf ro c tm mk g := by
  simp only [evList]
  cases h : evCode P call N lf ro c tm mk g with
  | none => rfl
  | some r =>
    obtain ⟨e, tm1, mk1, g1⟩ := r
    cases e <;> rfl
theorem evList_flat : ∀ (c : Code) (tm : T AV) (mk : List Nat) (g : G), evList P call N lf ro (flat c) tm mk g = evCode P call N lf ro c tm mk g
  | .seq a b, tm, mk, g => by
    rw [flat, evList_append, evList_flat a]
    simp only [evCode]
    cases h : evCode P call N lf ro a tm mk g with
    | none => rfl
    | some r =>
      obtain ⟨e, tm1, mk1, g1⟩ := r
      cases e with
      | normal => exact evList_flat b tm1 mk1 g1
      | exit id => rfl
      | ret => rfl
  | .scope c, tm, mk, g => by
    rw [flat, evList_flat c]
    simp only [evCode]
  | .skip, tm, mk, g => evList_one _ _ _ _
  | .label l, tm, mk, g => evList_one _ _ _ _
  | .region a b c, tm, mk, g => evList_one _ _ _ _
  | .cond c a b, tm, mk, g => evList_one _ _ _ _
  | .block a b, tm, mk, g => evList_one _ _ _ _
  | .loop a, tm, mk, g => evList_one _ _ _ _
  | .exit a, tm, mk, g => evList_one _ _ _ _
  | .ret, tm, mk, g => evList_one _ _ _ _
  | .rangeFunc a b c d, tm, mk, g => evList_one _ _ _ _
  | .goto a, tm, mk, g => evList_one _ _ _ _
  | .refuse a, tm, mk, g => evList_one _ _ _ _
end
/-- A state between two statements. -/
abbrev St := T AV × List Nat × G
def bodyOf (fn : Func) : Code := match fn.body with
  | some c => c
  | none => .skip
/-- n statements from the i-th on. -/
def cutL (i n : Nat) (l : List Code) : List Code := (l.drop i).take n
/-- The function's i-th statement and n - 1 more lead from one state to the other. -/
def Leads (P : Program) (lf d : Nat) (fn : Func) (i n : Nat) (s s' : St) : Prop := evList P (evFn P lf d) fn.ntmps lf false (cutL i n (flat (bodyOf fn))) s.1 s.2.1 s.2.2 = some (.normal, s')
theorem Leads.step {P : Program} {lf d : Nat} {fn : Func} {i n : Nat} {s s' : St} {r : Option (Ex × St)} (h : Leads P lf d fn i n s s')
    (k : evList P (evFn P lf d) fn.ntmps lf false ((flat (bodyOf fn)).drop (i + n)) s'.1 s'.2.1 s'.2.2 = r) : evList P (evFn P lf d) fn.ntmps lf false ((flat (bodyOf fn)).drop i) s.1 s.2.1 s.2.2 = r := by
  have e : (flat (bodyOf fn)).drop i = cutL i n (flat (bodyOf fn)) ++ (flat (bodyOf fn)).drop (i + n) := by
    unfold cutL
    rw [← List.drop_drop, List.take_append_drop]
  rw [e, evList_append]
  unfold Leads at h
  rw [h]
  exact k
theorem leads_of {P : Program} {lf d : Nat} {fn : Func} {i n : Nat} {s s' : St} (h : evList P (evFn P lf d) fn.ntmps lf false (cutL i n (flat (bodyOf fn))) s.1 s.2.1 s.2.2 = some (.normal, s')) : Leads P lf d fn i n s s' := h
/-- Short names for the states' texts. -/
@[reducible] def nd {α : Type} (l : T α) (v : Option α) (r : T α) : T α := .node l v r
@[reducible] def nl {α : Type} : T α := .nil
@[reducible] def n2 {α : Type} (l r : T α) : T α := .node l none r
@[reducible] def lf {α : Type} (v : Option α) : T α := .node .nil v .nil
@[reducible] def iS (n : Nat) : Option AV := some (.v (.int .i64 (.ofNat n)))
@[reducible] def uS (n : Nat) : Option AV := some (.v (.int .u64 (.ofNat n)))
@[reducible] def tS : Option AV := some (.v (.bool true))
@[reducible] def fS : Option AV := some (.v (.bool false))
@[reducible] def cS (ty : Nat) (ex : Bool) (n : Nat) (p : List AV) (t : T AV) : Option Row := some (.cells ty ex n p t)
@[reducible] def xS (ty : Nat) (n : Nat) (t : T AV) : Option Row := some (.cells ty true n [] t)
/-- What is handed back. -/
noncomputable def lastOK (P : Program) (fn : Func) : Option (Ex × St) → Bool
  | some (.ret, tm, mk, g) => match evMarks mk g with
    | some g => match resA P tm g fn.results.toList with
      | some ([.v (.bool true)], _) => true
      | _ => false
    | none => false
  | _ => false
noncomputable def lastTrue (P : Program) (lf d : Nat) (fn : Func) (i : Nat) (s : St) : Bool := lastOK P fn (evList P (evFn P lf d) fn.ntmps lf false ((flat (bodyOf fn)).drop i) s.1 s.2.1 s.2.2)
theorem isTrue_cut {P : Program} {lf d : Nat} {f : FuncId} {fn : Func} (hf : P.funcs[f]? = some fn) (hb : fn.body = some (bodyOf fn)) {r : Option (Ex × St)} (h : evList P (evFn P lf d) fn.ntmps lf false ((flat (bodyOf fn)).drop 0) .nil [] g0 = r) (hr : lastOK P fn r = true) : isTrue P lf (d + 1) f = true := by
  rw [List.drop_zero, evList_flat] at h
  unfold isTrue
  simp only [evFn, hf, hb, argsT, List.length_nil]
  rw [show Nat.ble 0 fn.ntmps = true from by simp]
  dsimp only
  rw [h]
  unfold lastOK at hr
  split at hr
  · split at hr
    · rename_i hmk
      split at hr
      · rename_i hres
        simp only [hmk, hres, resOne]
      · cases hr
    · cases hr
  · cases hr
end Go.Proofs.Ytoifejinppjeeaa.Eng
