/- A line and the reference's line beside it. Plain laws. Conditions: those of LineAt and RefAt; they have no block in common. -/
import Derived.Test.YtdadplpibdjjbaaRefLineW2
import Derived.Test.YtdadplpibdjjbaaLineOrderW
namespace Go.Proofs.Ytdadplpibdjjbaa
open Go.RowKit
set_option linter.unusedVariables false
set_option linter.unusedSimpArgs false
structure Pair (w : World) (x y : Nat) (ss : List (BitVec 64)) (os : List St) (B : Option Addr) (d n : Nat) (s2 : List (BitVec 64)) (rs : List Rs) (S : Option Addr) (sc : Nat) (O : Option Addr) (oc : Nat) : Prop where
  l : LineAt w x ss os B d (n : Int)
  r : RefAt w y s2 rs S sc O oc
  ne : x ≠ y
  yb : blk B ≠ some y
  sx : blk S ≠ some x
  ox : blk O ≠ some x
  sb : ∀ q, blk B = some q → blk S ≠ some q
  ob : ∀ q, blk B = some q → blk O ≠ some q
section
variable {w w' : World} {x y d d' n n' sc sc' oc oc' : Nat} {ss ss' s2 s2' : List (BitVec 64)} {os os' : List St} {rs rs' : List Rs} {B B' S S' O O' : Option Addr}
theorem Pair.below (h : Pair w x y ss os B d n s2 rs S sc O oc) (hb : Below w.heap.size w w') : Pair w' x y ss os B d n s2 rs S sc O oc :=
  ⟨h.l.below hb, h.r.below hb, h.ne, h.yb, h.sx, h.ox, h.sb, h.ob⟩
/-- The line has done a step. -/
theorem Pair.line {r : Option Nat} (h : Pair w x y ss os B d n s2 rs S sc O oc) (hF : Fr w w' x r) (hr : r = none ∨ r = blk B) (hl : LineAt w' x ss' os' B' d' (n' : Int)) (hB : ∀ k, blk B' = some k → blk B = some k ∨ w.heap.size ≤ k) :
    Pair w' x y ss' os' B' d' n' s2 rs S sc O oc := by
  have hrn : ∀ q, (blk B = some q → False) → r ≠ some q := fun q hq e => by
    rcases hr with rfl | rfl
    · cases e
    · exact hq e
  refine ⟨hl, h.r.same hF.size ?_ ?_ ?_, h.ne, ?_, h.sx, h.ox, ?_, ?_⟩
  · exact hF.block y h.r.lt h.ne.symm (hrn y h.yb)
  · exact fun q hq => hF.block q (h.r.slt q hq) (fun e => h.sx (by rw [hq, e])) (hrn q (fun e => h.sb q e hq))
  · exact fun q hq => hF.block q (h.r.olt q hq) (fun e => h.ox (by rw [hq, e])) (hrn q (fun e => h.ob q e hq))
  · intro e
    rcases hB y e with e2 | e2
    · exact h.yb e2
    · have := h.r.lt; omega
  · intro q hq e
    rcases hB q hq with e2 | e2
    · exact h.sb q e2 e
    · have := h.r.slt q e; omega
  · intro q hq e
    rcases hB q hq with e2 | e2
    · exact h.ob q e2 e
    · have := h.r.olt q e; omega
/-- The reference has done a step. -/
theorem Pair.ref (h : Pair w x y ss os B d n s2 rs S sc O oc) (hF : Fr w w' y none) (hl : RefAt w' y s2' rs' S' sc' O' oc') (hS : ∀ k, blk S' = some k → blk S = some k ∨ w.heap.size ≤ k) (hO : ∀ k, blk O' = some k → blk O = some k ∨ w.heap.size ≤ k) :
    Pair w' x y ss os B d n s2' rs' S' sc' O' oc' := by
  refine ⟨lineAt_fr h.l hF h.ne (fun e => by cases e) h.yb (fun q _ e => by cases e), hl, h.ne, h.yb, ?_, ?_, ?_, ?_⟩
  · intro e
    rcases hS x e with e2 | e2
    · exact h.sx e2
    · have := h.l.lt; omega
  · intro e
    rcases hO x e with e2 | e2
    · exact h.ox e2
    · have := h.l.lt; omega
  · intro q hq e
    rcases hS q e with e2 | e2
    · exact h.sb q hq e2
    · have := (h.l.own.lt q hq).2; omega
  · intro q hq e
    rcases hO q e with e2 | e2
    · exact h.ob q hq e2
    · have := (h.l.own.lt q hq).2; omega
end
theorem mk_store (os : List St) (n : Nat) (z : Int) (v : BitVec 64) (h : n ≤ os.length) : (if 0 ≤ z ∧ z < 8 then mk os n ++ [(z, v, false)] else mk os n) = mk (if 0 ≤ z ∧ z < 8 then os ++ [(z, v)] else os) n := by
  split
  · rw [mk_push _ _ _ h]
  · rfl
/-- What stands while both store: the box of the act, and the lines ahead of, between, and behind the two stores. -/
def StJ (w0 : World) (bx : Nat) (cs : Array Value) (t : TypeId) (x y : Nat) (ss : List (BitVec 64)) (os os' : List St) (B : Option Addr) (d n : Nat) (S : Option Addr) (sc : Nat) (O : Option Addr) (oc : Nat) : Bool → Bool → World → Prop
  | false, _, w => w.heap[bx]? = some (.cells cs t (0, 0)) ∧ Below w0.heap.size w0 w ∧ Pair w x y ss os B d n ss (mk os n) S sc O oc
  | true, false, w => w.heap[bx]? = some (.cells cs t (0, 0)) ∧ Below w0.heap.size w0 w ∧ ∃ B' d', Pair w x y ss os' B' d' n ss (mk os n) S sc O oc
  | true, true, w => w.heap[bx]? = some (.cells cs t (0, 0)) ∧ Below w0.heap.size w0 w ∧ ∃ B' d' O' oc', Pair w x y ss os' B' d' n ss (mk os' n) S sc O' oc'
theorem StJ.box {w0 : World} {bx : Nat} {cs : Array Value} {t : TypeId} {x y : Nat} {ss : List (BitVec 64)} {os os' : List St} {B : Option Addr} {d n : Nat} {S : Option Addr} {sc : Nat} {O : Option Addr} {oc : Nat} {a b : Bool} {w : World} (h : StJ w0 bx cs t x y ss os os' B d n S sc O oc a b w) : w.heap[bx]? = some (.cells cs t (0, 0)) := by
  cases a <;> cases b <;> exact h.1
theorem StJ.quiet {w0 : World} {bx : Nat} {cs : Array Value} {t : TypeId} {x y : Nat} {ss : List (BitVec 64)} {os os' : List St} {B : Option Addr} {d n : Nat} {S : Option Addr} {sc : Nat} {O : Option Addr} {oc : Nat} {l : Array Bool} {w : World} {i p q : Nat} (h : StJ w0 bx cs t x y ss os os' B d n S sc O oc (l.getD p false) (l.getD q false) w) (hp : i ≠ p) (hq : i ≠ q) :
    StJ w0 bx cs t x y ss os os' B d n S sc O oc ((l.setIfInBounds i true).getD p false) ((l.setIfInBounds i true).getD q false) w := by
  rw [getD_set_ne hp, getD_set_ne hq]
  exact h
end Go.Proofs.Ytdadplpibdjjbaa
