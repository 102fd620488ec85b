/- An evaluator of closed calls: definitions. Memory is kept by names; a call is run once, in the text's order; what Go leaves open (orders, capacities) is left open. No condition. -/
import Derived.Test.YtjblkeofjkdpbaaGreatDoorProg
import Derived.Calls
import Derived.Orders
import Derived.Below
import Derived.Laws.BytesArg
namespace Go.Proofs.YtjblkeofjkdpbaaGreatDoor.Eng
open Go
set_option linter.unusedVariables false
noncomputable section

/-! ### A tree of values by number -/
inductive T (α : Type) where
  | nil
  | node (l : T α) (v : Option α) (r : T α)
section
variable {α : Type}
def T.get (t : T α) (k : Nat) : Option α :=
  T.rec (motive := fun _ => Nat → Option α) (fun _ => none)
    (fun _ v _ gl gr k => Bool.rec (motive := fun _ => Option α) (Bool.rec (motive := fun _ => Option α) (gr (Nat.sub (Nat.div k 2) 1)) (gl (Nat.div k 2)) (Nat.beq (Nat.mod k 2) 1)) v (Nat.beq k 0)) t k
/-- A tree of one value. -/
def T.one (v : Option α) (f k : Nat) : Option (T α) :=
  Nat.rec (motive := fun _ => Nat → Option (T α)) (fun _ => none)
    (fun _ ih k => Bool.rec (motive := fun _ => Option (T α))
      (Bool.rec (motive := fun _ => Option (T α))
        (Option.rec (motive := fun _ => Option (T α)) none (fun r => some (.node .nil none r)) (ih (Nat.sub (Nat.div k 2) 1)))
        (Option.rec (motive := fun _ => Option (T α)) none (fun l => some (.node l none .nil)) (ih (Nat.div k 2))) (Nat.beq (Nat.mod k 2) 1))
      (some (.node .nil v .nil)) (Nat.beq k 0)) f k
/-- Strict: the path is built anew before the answer is there. -/
def T.set (v : Option α) (f : Nat) (t : T α) (k : Nat) : Option (T α) :=
  T.rec (motive := fun _ => Nat → Option (T α)) (fun k => T.one v f k)
    (fun l x r sl sr k => Bool.rec (motive := fun _ => Option (T α))
      (Bool.rec (motive := fun _ => Option (T α))
        (Option.rec (motive := fun _ => Option (T α)) none (fun r => some (.node l x r)) (sr (Nat.sub (Nat.div k 2) 1)))
        (Option.rec (motive := fun _ => Option (T α)) none (fun l => some (.node l x r)) (sl (Nat.div k 2))) (Nat.beq (Nat.mod k 2) 1))
      (some (.node l v r)) (Nat.beq k 0)) t k
end
def setL {α : Type} (v : α) : List α → Nat → Option (List α)
  | [], _ => none
  | x :: xs, k => match k with
    | 0 => some (v :: xs)
    | k + 1 => match setL v xs k with
      | some ys => some (x :: ys)
      | none => none
def getL {α : Type} : List α → Nat → Option α
  | [], _ => none
  | x :: xs, k => match k with
    | 0 => some x
    | k + 1 => getL xs k
/-- The first n, strictly; none where there are fewer. -/
def takeL {α : Type} : Nat → List α → Option (List α)
  | 0, _ => some []
  | n + 1, l => match l with
    | [] => none
    | x :: xs => match takeL n xs with
      | some ys => some (x :: ys)
      | none => none
def dropL {α : Type} : Nat → List α → Option (List α)
  | 0, l => some l
  | n + 1, l => match l with
    | [] => none
    | _ :: xs => dropL n xs
def appL {α : Type} : List α → List α → Option (List α)
  | [], ys => some ys
  | x :: xs, ys => match appL xs ys with
    | some zs => some (x :: zs)
    | none => none
def repL {α : Type} (x : List α) : Nat → Option (List α)
  | 0 => some []
  | n + 1 => match repL x n with
    | some l => appL x l
    | none => none
/-- The values from place k on are replaced. -/
def setsL {α : Type} (l : List α) (k : Nat) : List α → Option (List α)
  | [] => some l
  | v :: vs => match setL v l k with
    | some l => setsL l (k + 1) vs
    | none => none

/-! ### Values -/
inductive AV where
  | v (x : Value)
  | ptr (k off : Nat)
  | sl (k off len : Nat) (cap : Option Nat) (sz : Nat)
  | agg (l : List AV)
  | tup (l : List AV)
  | fn (f : Fn) (first captured : List AV)
  /-- A slice of nothing, not nil, wherever it points. -/
  | es
  /-- The function that a range over a function hands over. -/
  | yl (k : Nat)
  /-- A loop's record: 0 ready, 1 busy, 2 done, 3 exhausted; the pending jump: 0 none, 1 return, n + 2 exit n. -/
  | lp (st jump nt : Nat) (tm : T AV) (ps : List Nat) (assign body : Code)
  /-- The block for a loop's deferred calls: open, or shut. -/
  | df (o : Bool)
  /-- A block that is no cells and is done with. -/
  | ded
  /-- A map: its block. -/
  | mr (k : Nat)
  /-- A map's block: keys; their stamps and the clock, where they are known; values. -/
  | mp (ks : List Value) (bs : Option (List Nat × Nat)) (vs : List AV)
  /-- The iterator over a map: its block, the clock at the start, the stamps seen, the clock at the last step. -/
  | mi (k since : Nat) (seen : List Nat) (last : Nat)
  /-- The iterator over no map. -/
  | m0
  /-- Whatever it is. -/
  | top
/-- Strict: a value of plain parts in its last form. -/
def forceNat {β : Type} (n : Nat) (k : Nat → β) : β := match n with
  | 0 => k 0
  | m + 1 => k (m + 1)
def forceInt {β : Type} (n : Int) (k : Int → β) : β :=
  match n with
  | .ofNat m => forceNat m fun m => k (.ofNat m)
  | .negSucc m => forceNat m fun m => k (.negSucc m)
def forceV {β : Type} (v : Value) (k : Value → β) : β :=
  match v with
  | .int i n => forceInt n fun n => k (.int i n)
  | .bool b => match b with
    | true => k (.bool true)
    | false => k (.bool false)
  | v => k v
/-- A value in its outer form, and on with it. -/
def forceA {β : Type} (a : AV) (k : AV → β) : β := match a with
  | .v x => match x with
    | .int i n => k (.v (.int i n))
    | .bool b => k (.v (.bool b))
    | .agg l => k (.v (.agg l))
    | x => k (.v x)
  | .ptr b o => k (.ptr b o)
  | .sl b o n c z => k (.sl b o n c z)
  | .agg l => k (.agg l)
  | .tup l => k (.tup l)
  | a => k a
def allV : List AV → Option (List Value)
  | [] => some []
  | x :: xs => match x with
    | .v y => match allV xs with
      | some ys => some (y :: ys)
      | none => none
    | _ => none
def mapV : List Value → List AV
  | [] => []
  | x :: xs => .v x :: mapV xs
def mkAgg (l : List AV) : AV := match allV l with
  | some vs => .v (.agg vs.toArray)
  | none => .agg l
def mkTup (l : List AV) : AV := match allV l with
  | some vs => .v (.tuple vs.toArray)
  | none => .tup l
def mkFn (f : Fn) (a b : List AV) : AV := match allV a, allV b with
  | some x, some y => .v (.func f x.toArray y.toArray)
  | _, _ => .fn f a b
/-- The cells of a value. -/
def AV.cells : AV → List AV
  | .v x => mapV x.cells.toList
  | .agg l => l
  | a => [a]

/-- What a program of the model answers where it asks nothing of the world. -/
def ev? {α : Type} (P : Program) : Sem α → Option α
  | .pure a => some a
  | .program k => ev? P (k P)
  | .mark _ k => ev? P k
  | _ => none

/-! ### Memory by names -/
/-- A block: its type; whether it has no cells more; so many cells (what is not in the tree is as the pattern says, again and again); or one thing that is no cells. -/
inductive Row where
  | cells (ty : Nat) (ex : Bool) (n : Nat) (pat : List AV) (t : T AV)
  | odd (a : AV)
def cellAt (pat : List AV) (t : T AV) (i : Nat) : AV := match t.get i with
  | some a => a
  | none => match getL pat (Nat.mod i pat.length) with
    | some a => a
    | none => .v undef
def Row.toL : Row → List AV
  | .cells _ _ n pat t => (List.range n).map (cellAt pat t)
  | .odd a => [a]
def Row.ty : Row → Nat
  | .cells ty _ _ _ _ => ty
  | .odd _ => 0
def Row.ex : Row → Bool
  | .cells _ ex _ _ _ => ex
  | .odd _ => false
def cellsFrom (pat : List AV) (t : T AV) (off : Nat) : Nat → List AV
  | 0 => []
  | n + 1 => forceA (cellAt pat t off) fun a => forceNat (off + 1) fun off => a :: cellsFrom pat t off n
def rowSlice (r : Row) (off n : Nat) : Option (List AV) := match r with
  | .cells _ _ m pat t => match Nat.ble (off + n) m with
    | true => some (cellsFrom pat t off n)
    | false => none
  | .odd _ => none
def rowGet (r : Row) (i : Nat) : Option AV := match r with
  | .cells _ _ m pat t => match Nat.blt i m with
    | true => some (cellAt pat t i)
    | false => none
  | .odd _ => none
def setsT (t : T AV) (off : Nat) : List AV → Option (T AV)
  | [] => some t
  | a :: l => forceA a fun a => match T.set (some a) 64 t off with
    | some t => forceNat (off + 1) fun off => setsT t off l
    | none => none
def rowSets (r : Row) (off : Nat) (cs : List AV) : Option Row := match r with
  | .cells ty ex m pat t => match Nat.ble (off + cs.length) m, setsT t off cs with
    | true, some t => some (.cells ty ex m pat t)
    | _, _ => none
  | .odd _ => none
/-- With more cells behind them. -/
def rowApp (ex : Bool) (r : Row) (cs : List AV) : Option Row := match r with
  | .cells ty _ m pat t => match setsT t m cs with
    | some t => forceNat (m + cs.length) fun m => some (.cells ty ex m pat t)
    | none => none
  | .odd _ => none
def rowOf (ty : Nat) (ex : Bool) (l : List AV) : Option Row := rowApp ex (.cells ty true 0 [] .nil) l
structure G where
  H : T Row
  n : Nat
  thr : Nat
  rd : List Nat
  wr : List Nat
def fuelT : Nat := 64
/-- A block's cells. (The 'O' ones say the same, for proofs: the others take memory apart first, so that no field is left unreckoned.) -/
def G.readO (g : G) (k : Nat) : Option (Row × G) :=
  match g.H.get k with
  | none => none
  | some l => match l with
    | .odd _ => none
    | .cells ty ex n pat t => match Nat.blt k g.thr with
      | true => some (.cells ty ex n pat t, ⟨g.H, g.n, g.thr, k :: g.rd, g.wr⟩)
      | false => some (.cells ty ex n pat t, g)
def G.readXO (g : G) (k : Nat) : Option (AV × G) :=
  match g.H.get k with
  | none => none
  | some l => match l with
    | .odd a => match Nat.blt k g.thr with
      | true => some (a, ⟨g.H, g.n, g.thr, k :: g.rd, g.wr⟩)
      | false => some (a, g)
    | .cells _ _ _ _ _ => none
def G.writeO (g : G) (k : Nat) (o : Option Row) : Option G :=
  match T.set o fuelT g.H k with
  | none => none
  | some H => match Nat.blt k g.thr with
    | true => some ⟨H, g.n, g.thr, k :: g.rd, k :: g.wr⟩
    | false => match Nat.blt k g.n with
      | true => some ⟨H, g.n, g.thr, g.rd, g.wr⟩
      | false => none
def G.newO (g : G) (l : Row) : Option (Nat × G) :=
  match T.set (some l) fuelT g.H g.n with
  | none => none
  | some H => forceNat (g.n + 1) fun n => some (g.n, ⟨H, n, g.thr, g.rd, g.wr⟩)
def G.read (g : G) (k : Nat) : Option (Row × G) := match g with
  | ⟨H, n, thr, rd, wr⟩ => match H.get k with
    | none => none
    | some l => match l with
      | .odd _ => none
      | .cells ty ex m pat t => match Nat.blt k thr with
        | true => some (.cells ty ex m pat t, ⟨H, n, thr, k :: rd, wr⟩)
        | false => some (.cells ty ex m pat t, ⟨H, n, thr, rd, wr⟩)
/-- A block that holds no cells. -/
def G.readX (g : G) (k : Nat) : Option (AV × G) := match g with
  | ⟨H, n, thr, rd, wr⟩ => match H.get k with
    | none => none
    | some l => match l with
      | .odd a => match Nat.blt k thr with
        | true => some (a, ⟨H, n, thr, k :: rd, wr⟩)
        | false => some (a, ⟨H, n, thr, rd, wr⟩)
      | .cells _ _ _ _ _ => none
def G.write (g : G) (k : Nat) (o : Option Row) : Option G := match g with
  | ⟨H, n, thr, rd, wr⟩ => match T.set o fuelT H k with
    | none => none
    | some H => match Nat.blt k thr with
      | true => some ⟨H, n, thr, k :: rd, k :: wr⟩
      | false => match Nat.blt k n with
        | true => some ⟨H, n, thr, rd, wr⟩
        | false => none
def G.new (g : G) (l : Row) : Option (Nat × G) := match g with
  | ⟨H, n, thr, rd, wr⟩ => match T.set (some l) fuelT H n with
    | none => none
    | some H => forceNat (n + 1) fun n' => some (n, ⟨H, n', thr, rd, wr⟩)
theorem G.read_def (g : G) (k : Nat) : g.read k = g.readO k := by
  cases g
  simp only [G.read, G.readO]
theorem G.readX_def (g : G) (k : Nat) : g.readX k = g.readXO k := by
  cases g
  simp only [G.readX, G.readXO]
theorem G.write_def (g : G) (k : Nat) (o : Option Row) : g.write k o = g.writeO k o := by
  cases g
  simp only [G.write, G.writeO]
theorem G.new_def (g : G) (l : Row) : g.new l = g.newO l := by
  cases g
  simp only [G.new, G.newO]
def G.newL (g : G) (ty : Nat) (ex : Bool) (l : List AV) : Option (Nat × G) := match rowOf ty ex l with
  | some r => g.new r
  | none => none

/-! ### One operation -/
section
variable (P : Program)
def opnd (tm : T AV) : Operand → AV
  | .tmp t => match tm.get t with
    | some a => a
    | none => .v undef
  | .const x => .v x
  | .global g => .v (.pointer (some ⟨g, 0, none⟩))
  | .func f => .v (.func (.func f) #[] #[])
def opnds (tm : T AV) : List Operand → List AV
  | [] => []
  | x :: xs => opnd tm x :: opnds tm xs
/-- What is called: a function, or a loop's next round. -/
inductive Cl where
  | fn (f : FuncId)
  | yl (k : Nat)
inductive OpR where
  | val (a : AV) (g : G)
  | call (f : Cl) (args : List AV) (g : G)
/-- A plain value, in its last form. -/
def plainR (s : Sem Value) (g : G) : Option OpR := match ev? P s with
  | some v => forceV v fun v => some (.val (.v v) g)
  | none => none
/-- The number of cells of a type; whether it has several in a row. -/
def szOf (t : TypeId) : Option Nat := (P.info? t).map (·.size)
def aggT (t : TypeId) : Option Bool := (P.underlying t).map fun d => match d with
  | .struct _ | .array _ _ => true
  | _ => false
def zeroT (t : TypeId) : Option (List AV) := match P.info? t with
  | some i => match i.zero with
    | some z => some (mapV z.cells.toList)
    | none => none
  | none => none
/-- Cells off .. off + n of a row. -/
def slice? (l : List AV) (off n : Nat) : Option (List AV) := match dropL off l with
  | some l => takeL n l
  | none => none
def part? (t : TypeId) (l : List AV) (off : Nat) : Option AV :=
  match aggT P t with
  | some true => match szOf P t with
    | some n => match slice? l off n with
      | some cs => some (mkAgg cs)
      | none => none
    | none => none
  | some false => getL l off
  | none => none
/-- A part of a block. -/
def partR (t : TypeId) (r : Row) (off : Nat) : Option AV :=
  match aggT P t with
  | some true => match szOf P t with
    | some n => match rowSlice r off n with
      | some cs => some (mkAgg cs)
      | none => none
    | none => none
  | some false => rowGet r off
  | none => none
def intOf? : AV → Option Int
  | .v (.int _ n) => some n
  | _ => none
/-- 0 ≤ n ≤ y. -/
def bound? (x : AV) (y : Nat) : Option Nat := match x with
  | .v (.int _ (.ofNat n)) => match Nat.ble n y with
    | true => some n
    | false => none
  | _ => none
def obound? (x : Option AV) (y d : Nat) : Option Nat := match x with
  | none => some d
  | some x => bound? x y
/-- The cells that the slice's first n elements (of size cells) have. -/
def cellsOf (size : Nat) (a : AV) (n : Nat) (g : G) : Option (List AV × G) := match a with
  | .sl k off len _ sz => match Nat.ble n len, Nat.beq sz size with
    | true, true => match g.read k with
      | some (l, g) => match rowSlice l off (n * size) with
        | some cs => some (cs, g)
        | none => none
      | none => none
    | _, _ => none
  | .v (.slice none _ _) => match n with
    | 0 => some ([], g)
    | _ + 1 => none
  | .es => match n with
    | 0 => some ([], g)
    | _ + 1 => none
  | .v (.string s) => match Nat.ble n s.size, Nat.beq size 1 with
    | true, true => some (mapV ((s.extract 0 n).data.map fun b => Value.int .u8 b.toNat).toList, g)
    | _, _ => none
  | _ => none
def lenOf? : AV → Option Nat
  | .sl _ _ n _ _ => some n
  | .v (.slice none n _) => some n
  | .es => some 0
  | .v (.string s) => some s.size
  | _ => none
end

/-! ### Operations -/
section
variable (P : Program)
def eqGuarded (op : BinOp) (t : TypeId) (x y : Operand) (a b : Value) : Sem Value := do eqGuard op t x y a b; binOp op t a b
/-- Equality where a side is the call's own. -/
def ownEq (t : TypeId) (a b : AV) (g : G) : Option (Bool × G) := match P.underlying t, a, b with
  | some (.pointer e), .ptr k o, .ptr j p => match Nat.beq k j, szOf P e, g.read k with
    | true, some (_ + 1), some (_, g) => some (Nat.beq o p, g)
    | _, _, _ => none
  | some (.pointer _), .ptr _ _, .v (.pointer none) => some (false, g)
  | some (.pointer _), .v (.pointer none), .ptr _ _ => some (false, g)
  | some (.slice _), .sl _ _ _ _ _, .v (.slice none _ _) => some (false, g)
  | some (.slice _), .v (.slice none _ _), .sl _ _ _ _ _ => some (false, g)
  | some (.func _ _ _), .fn _ _ _, .v .nilFunc => some (false, g)
  | some (.func _ _ _), .v .nilFunc, .fn _ _ _ => some (false, g)
  | _, _, _ => none
def oneCell : AV → Bool
  | .v (.agg _) => false
  | .v (.tuple _) => false
  | .agg _ => false
  | .tup _ => false
  | _ => true
def allOne : List AV → Bool
  | [] => true
  | a :: l => match oneCell a with
    | true => allOne l
    | false => false
def fillA (place : Nat → Option (Nat × Nat)) (cells : List AV) : List (Nat × AV) → Option (List AV)
  | [] => some cells
  | (i, a) :: rest => match place i with
    | none => none
    | some (off, size) =>
      match Nat.beq a.cells.length size, Nat.ble (off + size) cells.length with
      | true, true => match setsL cells off a.cells with
        | some cells => fillA place cells rest
        | none => none
      | _, _ => none
def partsA (tm : T AV) : List (Nat × Operand) → List (Nat × AV)
  | [] => []
  | (i, x) :: l => (i, opnd tm x) :: partsA tm l
def placesA : List Field → Option (List (Nat × Nat))
  | [] => some []
  | f :: fs => match szOf P f.type, placesA fs with
    | some n, some l => some ((f.offset, n) :: l)
    | _, _ => none
def evBuild (t : TypeId) (parts : List (Nat × AV)) : Option AV :=
  match zeroT P t, P.underlying t with
  | some zero, some (.struct fields) => match placesA P fields.toList with
    | some pl => match fillA (fun i => getL pl i) zero parts with
      | some cells => some (mkAgg cells)
      | none => none
    | none => none
  | some zero, some (.array _ elem) => match szOf P elem with
    | some size => match fillA (fun i => some (i * size, size)) zero parts with
      | some cells => some (mkAgg cells)
      | none => none
    | none => none
  | _, _ => none
/-- So many noughts of a type, in a new block. -/
def evRow (elem : TypeId) (n : Nat) : Option (List AV × Nat) :=
  match szOf P elem, zeroT P elem with
  | some size, some zero => match Nat.beq zero.length size with
    | true => match repL zero n with
      | some cells => some (cells, size)
      | none => none
    | false => none
  | _, _ => none
def evBuildSlice (t : TypeId) (len : Nat) (parts : List (Nat × AV)) (g : G) : Option OpR :=
  match P.underlying t with
  | some (.slice elem) => match evRow P elem len with
    | some (cells, size) => match Nat.ble (len * size) 16777216 with
      | true => match fillA (fun i => some (i * size, size)) cells parts with
        | some cells => match g.newL elem true cells with
          | some (k, g) => some (.val (.sl k 0 len (some len) size) g)
          | none => none
        | none => none
      | false => none
    | none => none
  | _ => none
def evMakeSlice (t : TypeId) (l c : AV) (g : G) : Option OpR :=
  match P.underlying t, l, c with
  | some (.slice elem), .v (.int _ (.ofNat l)), .v (.int _ (.ofNat c)) =>
    match Nat.ble l c, Nat.ble c 1048576, P.info? elem with
    | true, true, some i => match Nat.ble i.bytes 1024 with
      | true => match szOf P elem, zeroT P elem with
        | some size, some zero => match Nat.beq zero.length size, g.new (.cells elem true (c * size) zero .nil) with
          | true, some (k, g) => some (.val (.sl k 0 l (some c) size) g)
          | _, _ => none
        | _, _ => none
      | false => none
    | _, _, _ => none
  | _, _, _ => none
def evLoad (t : TypeId) (a : AV) (g : G) : Option OpR := match a with
  | .ptr k off => match g.read k with
    | some (l, g) => match partR P t l off with
      | some v => some (.val v g)
      | none => none
    | none => none
  | _ => none
def evStore (t : TypeId) (a x : AV) (g : G) : Option OpR := match a with
  | .ptr k off =>
    match szOf P t, g.read k with
    | some n, some (l, g) => match Nat.beq x.cells.length n, allOne x.cells with
      | true, true => match rowSets l off x.cells with
        | some l => match g.write k (some l) with
          | some g => some (.val (.v undef) g)
          | none => none
        | none => none
      | _, _ => none
    | _, _ => none
  | _ => none
def evSliceA (t : TypeId) (x : AV) (lo hi mx : Option AV) (g : G) : Option OpR :=
  match P.underlying t, x with
  | some (.array n elem), .ptr k off => match szOf P elem, obound? mx n n with
    | some size, some m => match obound? hi m n with
      | some h => match obound? lo h 0 with
        | some l => match Nat.beq m l with
          | true => some (.val (.sl k off (h - l) (some (m - l)) size) g)
          | false => some (.val (.sl k (off + l * size) (h - l) (some (m - l)) size) g)
        | none => none
      | none => none
    | _, _ => none
  | some (.slice elem), .sl k off len cap sz => match szOf P elem with
    | some size => match Nat.beq size sz with
      | true => match cap with
        | some c => match obound? mx c c with
          | some m => match obound? hi m len with
            | some h => match obound? lo h 0 with
              | some l => match Nat.beq m l with
                | true => some (.val (.sl k off (h - l) (some (m - l)) sz) g)
                | false => some (.val (.sl k (off + l * sz) (h - l) (some (m - l)) sz) g)
              | none => none
            | none => none
          | none => none
        | none => match mx with
          | some mx => match bound? mx len with
            | some m => match obound? hi m len with
              | some h => match obound? lo h 0 with
                | some l => match Nat.beq m l with
                  | true => some (.val (.sl k off (h - l) (some (m - l)) sz) g)
                  | false => some (.val (.sl k (off + l * sz) (h - l) (some (m - l)) sz) g)
                | none => none
              | none => none
            | none => none
          | none => match obound? hi len len with
            | some h => match obound? lo h 0 with
              | some l => match Nat.blt l len, Nat.beq l 0 with
                | true, _ => some (.val (.sl k (off + l * sz) (h - l) none sz) g)
                | false, true => some (.val (.sl k off h none sz) g)
                | false, false => some (.val .es g)
              | none => none
            | none => none
      | false => none
    | none => none
  | _, .v x => match lo, hi, mx with
    | none, none, none => plainR P (Instr.sliceAt t x none none none) g
    | some (.v l), none, none => plainR P (Instr.sliceAt t x (some l) none none) g
    | none, some (.v h), none => plainR P (Instr.sliceAt t x none (some h) none) g
    | some (.v l), some (.v h), none => plainR P (Instr.sliceAt t x (some l) (some h) none) g
    | some (.v l), some (.v h), some (.v m) => plainR P (Instr.sliceAt t x (some l) (some h) (some m)) g
    | none, some (.v h), some (.v m) => plainR P (Instr.sliceAt t x none (some h) (some m)) g
    | _, _, _ => none
  | _, _ => none
def evSlice (t : TypeId) (x : AV) (lo hi mx : Option AV) (g : G) : Option OpR := match hi, mx with
  | none, some _ => none
  | hi, mx => evSliceA P t x lo hi mx g
def evIndexAddr (t : TypeId) (x i : AV) : Option AV := match P.underlying t, x, i with
  | some (.array len elem), .ptr k off, .v (.int _ (.ofNat i)) => match Nat.blt i len, szOf P elem with
    | true, some size => some (.ptr k (off + i * size))
    | _, _ => none
  | some (.slice elem), .sl k off len _ sz, .v (.int _ (.ofNat i)) => match Nat.blt i len, szOf P elem with
    | true, some size => match Nat.beq size sz with
      | true => some (.ptr k (off + i * size))
      | false => none
    | _, _ => none
  | _, _, _ => none
def evFieldAddr (s : TypeId) (x : AV) (f : Nat) : Option AV := match P.underlying s, x with
  | some (.struct fields), .ptr k off => match fields[f]? with
    | some f => match szOf P f.type with
      | some (_ + 1) => some (.ptr k (off + f.offset))
      | _ => none
    | none => none
  | _, _ => none
def evField (t : TypeId) (x : AV) (f : Nat) (g : G) : Option OpR := match x with
  | .v x => plainR P (Instr.field t x f) g
  | .agg l => match P.underlying t with
    | some (.struct fields) => match fields[f]? with
      | some f => match part? P f.type l f.offset with
        | some v => some (.val v g)
        | none => none
      | none => none
    | _ => none
  | _ => none
/-- A slice's cells and some more: the block's own tree, where the slice is the whole block. -/
def growRow (elem size k len sz : Nat) (new : List AV) (g : G) : Option (Row × G) := match g.read k with
  | some (.cells ty ex m pat t, g) => match Nat.beq sz size, Nat.beq ty elem, Nat.beq m (len * size) with
    | true, true, true => match rowApp false (.cells ty ex m pat t) new with
      | some r => some (r, g)
      | none => none
    | true, true, false => match rowSlice (.cells ty ex m pat t) 0 (len * size) with
      | some old => match appL old new with
        | some all => match rowOf ty false all with
          | some r => some (r, g)
          | none => none
        | none => none
      | none => none
    | _, _, _ => none
  | _ => none
/-- New cells behind those of a slice: in a new row, or where there is room. -/
def evAppendTo (elem size m : Nat) (s : AV) (new : List AV) (g : G) : Option OpR := match s with
  | .v (.slice none 0 0) => match m with
    | 0 => some (.val (.v (.slice none 0 0)) g)
    | m + 1 => match Nat.ble (m + 1) 1048576, g.newL elem false new with
      | true, some (k, g) => some (.val (.sl k 0 (m + 1) none size) g)
      | _, _ => none
  | .sl k off len cap sz => match m, Nat.beq sz size, Nat.ble (len + m) 1048576 with
    | 0, true, _ => some (.val (.sl k off len cap sz) g)
    | m + 1, true, true => match cap with
      | some c => match Nat.ble (len + (m + 1)) c with
        | true => match g.read k with
          | some (l, g) => match rowSets l (off + len * size) new with
            | some l => match g.write k (some l) with
              | some g => some (.val (.sl k off (len + (m + 1)) (some c) sz) g)
              | none => none
            | none => none
          | none => none
        | false => match cellsOf size (.sl k off len (some c) sz) len g with
          | some (old, g) => match appL old new with
            | some all => match g.newL elem false all with
              | some (k, g) => some (.val (.sl k 0 (len + (m + 1)) none sz) g)
              | none => none
            | none => none
          | none => none
      | none => match Nat.beq off 0, growRow elem size k len sz new g with
        | true, some (all, g) => match g.write k none with
          | some g => match g.new all with
            | some (k, g) => some (.val (.sl k 0 (len + (m + 1)) none sz) g)
            | none => none
          | none => none
        | _, _ => none
    | _, _, _ => none
  | _ => none
def evAppend (t : TypeId) (s x : AV) (g : G) : Option OpR := match P.underlying t with
  | some (.slice elem) => match szOf P elem, lenOf? x, P.info? elem, zeroT P elem with
    | some size, some m, some inf, some zero => match Nat.ble inf.bytes 1024, Nat.beq zero.length size, cellsOf size x m g with
      | true, true, some (new, g) => match allOne new with
        | true => evAppendTo elem size m s new g
        | false => none
      | _, _, _ => none
    | _, _, _, _ => none
  | _ => none
/-- So many noughts behind the slice of nothing ('append' of a 'make'). -/
def evAppendN (t : TypeId) (s x : AV) (g : G) : Option OpR := match P.underlying t, s, x with
  | some (.slice elem), .v (.slice none 0 0), .v (.int _ (.ofNat (m + 1))) => match evRow P elem (m + 1), P.info? elem with
    | some (cells, size), some inf => match Nat.ble inf.bytes 1024, Nat.ble (m + 1) 1048576, Nat.blt 0 size, g.newL elem false cells with
      | true, true, true, some (k, g) => some (.val (.sl k 0 (m + 1) none size) g)
      | _, _, _, _ => none
    | _, _ => none
  | _, _, _ => none
/-- Noughts all over a slice. -/
def evClear (t : TypeId) (x : AV) (g : G) : Option OpR := match x with
  | .sl k off len _ sz => match P.underlying t with
    | some (.slice elem) => match evRow P elem len with
      | some (cells, size) => match Nat.beq size sz, allOne cells, g.read k with
        | true, true, some (l, g) => match rowSets l off cells with
          | some l => match g.write k (some l) with
            | some g => some (.val (.v (.tuple #[])) g)
            | none => none
          | none => none
        | _, _, _ => none
      | none => none
    | _ => none
  | .es => match P.underlying t with
    | some (.slice _) => some (.val (.v (.tuple #[])) g)
    | _ => none
  | _ => none
def minN (m n : Nat) : Nat := match Nat.ble m n with
  | true => m
  | false => n
def evCopy (t : TypeId) (d s : AV) (g : G) : Option OpR := match P.underlying t with
  | some (.slice elem) => match szOf P elem, lenOf? s, lenOf? d with
    | some size, some m, some n => match cellsOf size s (minN m n) g with
      | some (cs, g) => match d with
        | .v (.slice none _ _) => some (.val (.v (goInt (minN m n : Nat))) g)
        | .sl k off _ _ sz => match Nat.beq sz size, g.read k with
          | true, some (l, g) => match rowSets l off cs, allOne cs with
            | some l, true => match g.write k (some l) with
              | some g => some (.val (.v (goInt (minN m n : Nat))) g)
              | none => none
            | _, _ => none
          | _, _ => none
        | _ => none
      | none => none
    | _, _, _ => none
  | _ => none
def bytesAV : List AV → Option (List Int)
  | [] => some []
  | .v (.int .u8 n) :: l => match bytesAV l with
    | some bs => some (n :: bs)
    | none => none
  | _ => none
def evConvert (src dst : TypeId) (x : AV) (g : G) : Option OpR := match x with
  | .v (.string s) => match P.underlying dst, P.underlying src with
    | some (.slice e), some _ => match P.underlying e with
      | some (.int .u8) => match g.newL e false (mapV ((s.data.map fun b => Value.int .u8 b.toNat).toList)) with
        | some (k, g) => some (.val (.sl k 0 s.size none 1) g)
        | none => none
      | _ => none
    | _, _ => plainR P (convert src dst (.string s)) g
  | .v x => plainR P (convert src dst x) g
  | .sl k off len cap sz => match P.underlying src, P.underlying dst with
    | some (.slice e), some .string => match P.underlying e with
      | some (.int .u8) => match cellsOf 1 (.sl k off len cap sz) len g with
        | some (cs, g) => match bytesAV cs with
          | some bs => some (.val (.v (.string (strOfNums bs))) g)
          | none => none
        | none => none
      | _ => none
    | _, _ => none
  | .ptr k off => match P.underlying src, P.underlying dst with
    | some (.pointer t), some .unsafePointer => match szOf P t, g.read k with
      | some (_ + 1), some (.cells _ _ n _ _, g) => match Nat.blt off n with
        | true => some (.val (.ptr k off) g)
        | false => none
      | _, _ => none
    | some .unsafePointer, some (.pointer u) => match szOf P u, g.read k with
      | some _, some (.cells ty true n _ _, g) => match liesAt P P.depth ty (n / P.cellsOf ty) off u 1 with
        | true => some (.val (.ptr k off) g)
        | false => none
      | _, _ => none
    | _, _ => none
  | _ => none
/-- unsafe.String: the bytes; the block is not written any more. -/
def evUnsafeString (pt : TypeId) (k off : Nat) (n : Nat) (g : G) : Option OpR := match off, P.underlying pt, g.read k with
  | 0, some (.pointer e), some (l, g) => match Nat.beq l.ty e, Nat.beq (P.cellsOf e) 1, Nat.blt 0 n, Nat.ble n 1048576, rowSlice l 0 n with
    | true, true, true, true, some cs => match bytesAV cs with
      | some bs => match bs.all fun b => decide (0 ≤ b) && decide (b < 256) with
        | true => match g.write k none with
          | some g => some (.val (.v (.string (strOfNums bs))) g)
          | none => none
        | false => none
      | none => none
    | _, _, _, _, _ => none
  | _, _, _ => none
/-! ### Maps -/
def memN (k : Nat) : List Nat → Bool
  | [] => false
  | x :: xs => match Nat.beq k x with
    | true => true
    | false => memN k xs
def noDup : List Nat → Bool
  | [] => true
  | x :: xs => match memN x xs with
    | true => false
    | false => noDup xs
/-- The key is one that is compared as it stands. -/
def keyOK (kind : TypeDesc) (k : Value) : Bool := match Instr.sameNow kind k k with
  | some true => true
  | _ => false
/-- None of the keys is this one. -/
def noneM (kind : TypeDesc) (k : Value) : List Value → Bool
  | [] => true
  | x :: xs => match Instr.sameNow kind k x with
    | some false => noneM kind k xs
    | _ => false
/-- The one place of a key. -/
def findM (kind : TypeDesc) (k : Value) : List Value → Nat → Option (Option Nat)
  | [], _ => some none
  | x :: xs, i => match Instr.sameNow kind k x with
    | some true => match noneM kind k xs with
      | true => some (some i)
      | false => none
    | some false => findM kind k xs (i + 1)
    | none => none
/-- The place of a stamp. -/
def findN (b : Nat) : List Nat → Nat → Option Nat
  | [], _ => none
  | x :: xs, i => match Nat.beq b x with
    | true => some i
    | false => findN b xs (i + 1)
def pairA (ok : Bool) (a : AV) (b : Bool) : AV := match ok with
  | true => mkTup [a, .v (.bool b)]
  | false => a
def dropAt {α : Type} : List α → Nat → Option (List α)
  | [], _ => none
  | x :: xs, k => match k with
    | 0 => some xs
    | k + 1 => match dropAt xs k with
      | some ys => some (x :: ys)
      | none => none
/-- The key's type as it is compared, the element's type. -/
def mapT (t : TypeId) : Option (TypeDesc × TypeId) := match P.underlying t with
  | some (.map kt et) => match P.underlying kt with
    | some d => some (d, et)
    | none => none
  | _ => none
def zeroV (t : TypeId) : Option Value := match P.info? t with
  | some i => i.zero
  | none => none
def evLookup (t : TypeId) (x i : AV) (ok : Bool) (g : G) : Option OpR := match x, i with
  | .mr k, .v key => match mapT P t with
    | some (d, et) => match keyOK d key, g.readX k with
      | true, some (.mp ks _ vs, g) => match findM d key ks 0 with
        | some (some j) => match getL vs j with
          | some a => some (.val (pairA ok a true) g)
          | none => none
        | some none => match zeroV P et with
          | some z => some (.val (pairA ok (.v z) false) g)
          | none => none
        | none => none
      | _, _ => none
    | none => none
  | .v (.map none), .v key => plainR P (Instr.lookup t (.map none) key ok) g
  | _, _ => none
def evMapUpdate (t : TypeId) (x i a : AV) (g : G) : Option OpR := match x, i with
  | .mr k, .v key => match mapT P t with
    | some (d, _) => match keyOK d key, g.readX k with
      | true, some (.mp ks bs vs, g) => match findM d key ks 0 with
        | some (some j) => match setL a vs j with
          | some vs => match g.write k (some (.odd (.mp ks bs vs))) with
            | some g => some (.val (.v undef) g)
            | none => none
          | none => none
        | some none => match bs with
          | some (bl, c) => match appL bl [c], appL ks [key], appL vs [a] with
            | some bl, some ks, some vs => forceNat (c + 1) fun c => match g.write k (some (.odd (.mp ks (some (bl, c)) vs))) with
              | some g => some (.val (.v undef) g)
              | none => none
            | _, _, _ => none
          | none => match appL ks [key], appL vs [a] with
            | some ks, some vs => match g.write k (some (.odd (.mp ks none vs))) with
              | some g => some (.val (.v undef) g)
              | none => none
            | _, _ => none
        | none => none
      | _, _ => none
    | none => none
  | _, _ => none
def dropO (bs : Option (List Nat × Nat)) (j : Nat) : Option (Option (List Nat × Nat)) := match bs with
  | none => some none
  | some (bl, c) => match dropAt bl j with
    | some bl => some (some (bl, c))
    | none => none
def evDelete (t : TypeId) (x i : AV) (g : G) : Option OpR := match x, i with
  | .mr k, .v key => match mapT P t with
    | some (d, _) => match keyOK d key, g.readX k with
      | true, some (.mp ks bs vs, g) => match findM d key ks 0 with
        | some (some j) => match dropAt ks j, dropO bs j, dropAt vs j with
          | some ks, some bs, some vs => match g.write k (some (.odd (.mp ks bs vs))) with
            | some g => some (.val (.v (.tuple #[])) g)
            | none => none
          | _, _, _ => none
        | some none => some (.val (.v (.tuple #[])) g)
        | none => none
      | _, _ => none
    | none => none
  | _, _ => none
def evMakeMap (r : Option AV) (g : G) : Option OpR := match r with
  | none => match g.new (.odd (.mp [] (some ([], 0)) [])) with
    | some (k, g) => some (.val (.mr k) g)
    | none => none
  | some _ => none
def evRangeM (t : TypeId) (x : AV) (g : G) : Option OpR := match P.underlying t, x with
  | some (.map _ _), .mr k => match g.readX k with
    | some (.mp _ (some (_, c)) _, g) => match g.new (.odd (.mi k c [] c)) with
      | some (r, g) => some (.val (.ptr r 0) g)
      | none => none
    | _ => none
  | some (.map _ _), .v (.map none) => match g.new (.odd .m0) with
    | some (r, g) => some (.val (.ptr r 0) g)
    | none => none
  | _, _ => none
/-- The places that are left: their stamps are not seen. -/
def leftN (seen : List Nat) : List Nat → Nat → List Nat
  | [], _ => []
  | b :: bs, i => match memN b seen with
    | true => leftN seen bs (i + 1)
    | false => i :: leftN seen bs (i + 1)
def oldN (since : Nat) : List Nat → Bool
  | [] => true
  | b :: bs => match Nat.blt b since with
    | true => oldN since bs
    | false => false
/-- The steps that there may be: none is left, or some place. -/
def stepsM (since last : Nat) (seen bl : List Nat) : Option (List Nat) := match oldN since bl, Nat.ble since last with
  | true, true => some (leftN seen bl 0)
  | _, _ => none
def evStepAt (r k since : Nat) (seen : List Nat) (ks : List Value) (bl : List Nat) (c : Nat) (vs : List AV) (j : Nat) (g : G) : Option (AV × G) :=
  match getL ks j, getL bl j, getL vs j with
  | some key, some b, some a => match appL seen [b] with
    | some seen => match g.write r (some (.odd (.mi k since seen c))) with
      | some g => some (mkTup [.v (.bool true), .v key, a], g)
      | none => none
    | none => none
  | _, _, _ => none
/-- All that the next step may give. -/
def evNexts (x : AV) (g : G) : Option (List (AV × G)) := match x with
  | .ptr r 0 => match g.readX r with
    | some (.m0, g) => some [(.v (.tuple #[.bool false]), g)]
    | some (.mi k since seen last, g) => match g.readX k with
      | some (.mp ks (some (bl, c)) vs, g) => match stepsM since last seen bl with
        | some [] => some [(.v (.tuple #[.bool false]), g)]
        | some js => many r k since seen ks bl c vs g js
        | none => none
      | _ => none
    | _ => none
  | _ => none
where many (r k since : Nat) (seen : List Nat) (ks : List Value) (bl : List Nat) (c : Nat) (vs : List AV) (g : G) : List Nat → Option (List (AV × G))
  | [] => some []
  | j :: js => match evStepAt r k since seen ks bl c vs j g, many r k since seen ks bl c vs g js with
    | some x, some xs => some (x :: xs)
    | _, _ => none
def evNext (x : AV) (g : G) : Option OpR := match evNexts x g with
  | some [(a, g)] => some (.val a g)
  | _ => none
def lastL {α : Type} : List α → Option α
  | [] => none
  | x :: xs => match xs with
    | [] => some x
    | _ :: _ => lastL xs
def evEntry (x : AV) (g : G) : Option OpR := match x with
  | .ptr r 0 => match g.readX r with
    | some (.mi k _ seen last, g) => match g.readX k, lastL seen with
      | some (.mp ks (some (bl, c)) vs, g), some b => match findN b bl 0, Nat.beq c last, noDup bl with
        | some j, true, true => match getL ks j, getL vs j with
          | some key, some a => some (.val (mkTup [.v key, a]) g)
          | _, _ => none
        | _, _, _ => none
      | _, _ => none
    | _ => none
  | _ => none
def evBuiltin (b : Builtin) (ts : Array TypeId) (type : TypeId) (args : List AV) (g : G) : Option OpR := match b, args with
  | .append, [s, x] => match ts[0]?, ts[1]? with
    | some t, some t2 => match P.underlying t2 with
      | some (.slice _) => evAppend P t s x g
      | some .string => evAppend P t s x g
      | some (.int _) => evAppendN P t s x g
      | _ => none
    | _, _ => none
  | .copy, [d, s] => match ts[0]? with
    | some t => evCopy P t d s g
    | none => none
  | .len, [.sl _ _ n _ _] => match (ts[0]?).bind P.underlying with
    | some (.slice _) => some (.val (.v (goInt n)) g)
    | _ => none
  | .len, [.es] => match (ts[0]?).bind P.underlying with
    | some (.slice _) => some (.val (.v (goInt 0)) g)
    | _ => none
  | .len, [.ptr _ _] => match (ts[0]?).bind P.underlying with
    | some (.array n _) => some (.val (.v (goInt n)) g)
    | some (.pointer arr) => match P.underlying arr with
      | some (.array n _) => some (.val (.v (goInt n)) g)
      | _ => none
    | _ => none
  | .cap, [.sl _ _ _ (some n) _] => match (ts[0]?).bind P.underlying with
    | some (.slice _) => some (.val (.v (goInt n)) g)
    | _ => none
  | .unsafeSliceData, [.sl k off (_ + 1) _ _] => some (.val (.ptr k off) g)
  | .unsafeSliceData, [.v (.slice none _ _)] => some (.val (.v (.pointer none)) g)
  | .unsafeString, [.v (.pointer none), .v (.int .i64 0)] => match ts.toList with
    | [_, _] => some (.val (.v (.string .empty)) g)
    | _ => none
  | .unsafeString, [.ptr k off, .v (.int .i64 (.ofNat n))] => match ts.toList with
    | [pt, _] => evUnsafeString P pt k off n g
    | _ => none
  | .len, [.mr k] => match (ts[0]?).bind P.underlying, g.readX k with
    | some (.map _ _), some (.mp ks _ _, g) => forceNat ks.length fun n => some (.val (.v (goInt n)) g)
    | _, _ => none
  | .clear, [x] => match ts[0]? with
    | some t => evClear P t x g
    | none => none
  | .delete, [x, i] => match ts[0]? with
    | some t => evDelete P t x i g
    | none => none
  | .len, args => match allV args with
    | some vs => plainR P (Builtin.len_ ts type vs.toArray) g
    | none => none
  | .cap, args => match allV args with
    | some vs => plainR P (Builtin.cap_ ts type vs.toArray) g
    | none => none
  | .min, args => match allV args with
    | some vs => plainR P (Builtin.min_ ts type vs.toArray) g
    | none => none
  | .max, args => match allV args with
    | some vs => plainR P (Builtin.max_ ts type vs.toArray) g
    | none => none
  | _, _ => none
/-- The function that hands back what it is given. -/
def isSame (fn : Func) : Bool := (fn.name == "internal/abi.NoEscape") && (Extern.findNext fn).isNone
def evCall_ (f : AV) (args : List AV) (g : G) : Option OpR := match f with
  | .v (.func (.func f) first captured) => match P.funcs[f]? with
    | some fn => match fn.body with
      | some _ => some (.call (.fn f) (mapV first.toList ++ (args ++ mapV captured.toList)) g)
      | none => match allV args with
        | some vs => match ev? P (callFunc f (first ++ vs.toArray ++ captured)) with
          | some (.value v) => forceV v fun v => some (.val (.v v) g)
          | _ => none
        | none => match args, first.isEmpty && captured.isEmpty && isSame fn with
          | [a], true => some (.val a g)
          | _, _ => none
    | none => none
  | .fn (.func f) first captured => match P.funcs[f]? with
    | some fn => match fn.body with
      | some _ => some (.call (.fn f) (first ++ (args ++ captured)) g)
      | none => none
    | none => none
  | .yl k => some (.call (.yl k) args g)
  | _ => none
def opnds' (tm : T AV) : Option Operand → Option AV
  | none => none
  | some x => some (opnd tm x)
def evOp (tm : T AV) (o : Oper) (g : G) : Option OpR := match o.op with
  | .move x => some (.val (opnd tm x) g)
  | .assign x => some (.val (opnd tm x) g)
  | .pick c a b => match opnd tm c with
    | .v (.bool true) => some (.val (opnd tm a) g)
    | .v (.bool false) => some (.val (opnd tm b) g)
    | _ => none
  | .alloc t => match zeroT P t with
    | some l => match g.newL t true l with
      | some (k, g) => some (.val (.ptr k 0) g)
      | none => none
    | none => none
  | .box t x => match g.newL t true (opnd tm x).cells with
    | some (k, g) => some (.val (.ptr k 0) g)
    | none => none
  | .build t parts => match evBuild P t (partsA tm parts.toList) with
    | some v => some (.val v g)
    | none => none
  | .buildSlice t len parts => evBuildSlice P t len (partsA tm parts.toList) g
  | .load t a => evLoad P t (opnd tm a) g
  | .store t a x => evStore P t (opnd tm a) (opnd tm x) g
  | .nilCheck x => match opnd tm x with
    | .ptr k off => some (.val (.ptr k off) g)
    | .fn (.func f) a b => some (.val (.fn (.func f) a b) g)
    | .v (.pointer (some a)) => some (.val (.v (.pointer (some a))) g)
    | .v (.func (.func f) a b) => some (.val (.v (.func (.func f) a b)) g)
    | _ => none
  | .binOp op t x y _ => match opnd tm x, opnd tm y with
    | .v a, .v b => plainR P (eqGuarded op t x y a b) g
    | a, b => match op, ownEq P t a b g with
      | .eql, some (r, g) => some (.val (.v (.bool r)) g)
      | .neq, some (r, g) => some (.val (.v (.bool (!r))) g)
      | _, _ => none
  | .unOp op _ x => match opnd tm x with
    | .v a => plainR P (Op.unary op a) g
    | _ => none
  | .convert src dst x => evConvert P src dst (opnd tm x) g
  | .makeInterface t x => match opnd tm x with
    | .v a => plainR P (Instr.makeInterface t a) g
    | _ => none
  | .makeFunc fn first captured => some (.val (mkFn fn (opnds tm first.toList) (opnds tm captured.toList)) g)
  | .makeSlice t l c => evMakeSlice P t (opnd tm l) (opnd tm c) g
  | .slice t x lo hi mx => evSlice P t (opnd tm x) (opnds' tm lo) (opnds' tm hi) (opnds' tm mx) g
  | .fieldAddr s x f => match evFieldAddr P s (opnd tm x) f with
    | some v => some (.val v g)
    | none => none
  | .field t x f => evField P t (opnd tm x) f g
  | .indexAddr t x i => match evIndexAddr P t (opnd tm x) (opnd tm i) with
    | some v => some (.val v g)
    | none => none
  | .index t x i => match opnd tm x, opnd tm i with
    | .v a, .v b => plainR P (Instr.index t a b) g
    | .agg l, .v (.int _ (.ofNat i)) => match P.underlying t with
      | some (.array len elem) => match Nat.blt i len, szOf P elem with
        | true, some size => match part? P elem l (i * size) with
          | some v => some (.val v g)
          | none => none
        | _, _ => none
      | _ => none
    | _, _ => none
  | .makeMap t r => match r with
    | none => evMakeMap none g
    | some _ => none
  | .lookup t x i ok => evLookup P t (opnd tm x) (opnd tm i) ok g
  | .mapUpdate t x i a => evMapUpdate P t (opnd tm x) (opnd tm i) (opnd tm a) g
  | .insert t x i a => evMapUpdate P t (opnd tm x) (opnd tm i) (opnd tm a) g
  | .range t x => evRangeM P t (opnd tm x) g
  | .next x str => match str with
    | false => evNext (opnd tm x) g
    | true => none
  | .entry x => evEntry (opnd tm x) g
  | .extract x i => match opnd tm x with
    | .v a => plainR P (Instr.extract a i) g
    | .tup l => match getL l i with
      | some v => some (.val v g)
      | none => none
    | _ => none
  | .call c => match c.callee with
    | .builtin b => evBuiltin P b c.argTypes o.type (opnds tm c.args.toList) g
    | .value f => evCall_ P (opnd tm f) (opnds tm c.args.toList) g
    | .invoke _ _ => none
  | _ => none
end
/-! ### Regions, code, calls -/
/-- Strict put. -/
def putT (N : Nat) (tm : T AV) (dst : Option Tmp) (a : AV) : Option (T AV) := match dst with
  | none => some tm
  | some d => match Nat.blt d N with
    | true => forceA a fun a => T.set (some a) fuelT tm d
    | false => none
/-- Is the operation wanted? -/
def wantedA (ops : List Oper) (tm : T AV) (o : Oper) : Option Bool := match o.guard with
  | none => some true
  | some (j, want) => match getL ops j with
    | some p => match p.dst with
      | some d => match tm.get d with
        | some (.v (.bool b)) => match b, want with
          | true, true => some true
          | false, false => some true
          | _, _ => some false
        | some (.v (.tuple _)) => some false
        | _ => none
      | none => none
    | none => none
section
variable (P : Program) (call : Cl → List AV → G → Option (AV × G)) (N : Nat)
/-- One operation of a region: its value, memory behind it. -/
def evOne (ops : List Oper) (tm : T AV) (o : Oper) (g : G) : Option (AV × G) := match wantedA ops tm o with
  | some true => match evOp P tm o g with
    | some (.val a g) => some (a, g)
    | some (.call f args g) => call f args g
    | none => none
  | some false => some (.v undef, g)
  | none => none
/-- A region in the text's order. -/
def evOps (ops : List Oper) : List Oper → T AV → G → Option (T AV × G)
  | [], tm, g => some (tm, g)
  | o :: os, tm, g => match evOne P call ops tm o g with
    | some (a, g) => match putT N tm o.dst a with
      | some tm => evOps ops os tm g
      | none => none
    | none => none
def disjN : List Nat → List Nat → Bool
  | [], _ => true
  | x :: xs, l => match memN x l with
    | true => false
    | false => disjN xs l
/-- What an operation waits for, as bits, from those ahead of it. -/
def ancOf (anc : List Nat) : List Edge → Nat → Option Nat
  | [], m => some m
  | e :: es, m => match Region.binds .any e with
    | true => match getL anc e.on with
      | some a => ancOf anc es (Nat.lor m (Nat.lor (2 ^ e.on) a))
      | none => none
    | false => ancOf anc es m
/-- What an operation left in its log; the names that it made. -/
structure Log where
  rd : List Nat
  wr : List Nat
  lo : Nat
  hi : Nat
def outOf (lo hi : Nat) : List Nat → Bool
  | [] => true
  | k :: l => match Nat.ble lo k, Nat.blt k hi with
    | true, true => false
    | _, _ => outOf lo hi l
/-- Each operation ahead (with its log) is waited for, or has nothing to do with this one. -/
def apartB (i : Nat) (a : Nat) (rd wr : List Nat) : List Log → Bool
  | [] => true
  | g :: l => match Nat.testBit a i with
    | true => apartB (i + 1) a rd wr l
    | false => match disjN g.wr rd, disjN wr g.rd, outOf g.lo g.hi rd with
      | true, true, true => apartB (i + 1) a rd wr l
      | _, _, _ => false
def ancAll : List Oper → List Nat → Option (List Nat)
  | [], acc => some acc
  | o :: os, acc => match ancOf acc o.after.toList 0 with
    | some a => ancAll os (acc ++ [a])
    | none => none
/-- The operands that are looked at. -/
def useOf : Op → List Operand
  | .move x => [x]
  | .assign x => [x]
  | .pick c a b => [c, a, b]
  | .alloc _ => []
  | .box _ x => [x]
  | .build _ ps => ps.toList.map (·.2)
  | .buildSlice _ _ ps => ps.toList.map (·.2)
  | .load _ a => [a]
  | .store _ a x => [a, x]
  | .nilCheck x => [x]
  | .binOp _ _ x y _ => [x, y]
  | .unOp _ _ x => [x]
  | .convert _ _ x => [x]
  | .makeInterface _ x => [x]
  | .makeFunc _ a b => a.toList ++ b.toList
  | .makeSlice _ l c => [l, c]
  | .slice _ x lo hi mx => x :: (lo.toList ++ (hi.toList ++ mx.toList))
  | .fieldAddr _ x _ => [x]
  | .field _ x _ => [x]
  | .indexAddr _ x i => [x, i]
  | .index _ x i => [x, i]
  | .makeMap _ r => r.toList
  | .lookup _ x i _ => [x, i]
  | .mapUpdate _ x i a => [x, i, a]
  | .insert _ x i a => [x, i, a]
  | .range _ x => [x]
  | .next x _ => [x]
  | .entry x => [x]
  | .extract x _ => [x]
  | .call c => match c.callee with
    | .value f => f :: c.args.toList
    | _ => c.args.toList
  | _ => []
def tmpOf : List Operand → List Nat
  | [] => []
  | .tmp t :: l => t :: tmpOf l
  | _ :: l => tmpOf l
/-- The temporaries that an operation looks at. -/
def usesT (ops : List Oper) (o : Oper) : List Nat := match o.guard with
  | none => tmpOf (useOf o.op)
  | some (j, _) => match getL ops j with
    | some p => match p.dst with
      | some d => d :: tmpOf (useOf o.op)
      | none => tmpOf (useOf o.op)
    | none => tmpOf (useOf o.op)
/-- Whoever writes temporary t is waited for by operation i, or waits for it. -/
def useOK (i a t : Nat) : Nat → List Oper → List Nat → Bool
  | _, [], _ => true
  | j, p :: ps, bs => match bs with
    | [] => false
    | b :: bs => match p.dst with
      | none => useOK i a t (j + 1) ps bs
      | some d => match Nat.beq d t with
        | false => useOK i a t (j + 1) ps bs
        | true => match Nat.beq j i, Nat.testBit a j, Nat.testBit b i with
          | false, false, false => false
          | _, _, _ => useOK i a t (j + 1) ps bs
def usesOK (ops : List Oper) (ancs : List Nat) (i a : Nat) : List Nat → Bool
  | [] => true
  | t :: ts => match useOK i a t 0 ops ancs with
    | true => usesOK ops ancs i a ts
    | false => false
def allUses (ops : List Oper) (ancs : List Nat) : Nat → List Oper → List Nat → Bool
  | _, [], _ => true
  | i, o :: os, l => match l with
    | [] => false
    | a :: l => match usesOK ops ancs i a (usesT ops o) with
      | true => allUses ops ancs (i + 1) os l
      | false => false
def dsts : List Oper → List Nat
  | [] => []
  | o :: os => match o.dst with
    | some d => d :: dsts os
    | none => dsts os
/-- What each operation waits for, where the region is well made. -/
def drawOK (ops : List Oper) : Option (List Nat) := match ancAll ops [] with
  | some ancs => match allUses ops ancs 0 ops ancs, noDup (dsts ops) with
    | true, true => some ancs
    | _, _ => none
  | none => none
def below? (thr : Nat) : List Nat → List Nat → List Nat
  | [], acc => acc
  | x :: xs, acc => match Nat.blt x thr with
    | true => below? thr xs (x :: acc)
    | false => below? thr xs acc
/-- A region whose order is drawn: in the text's order, each operation with its own log; whatever may be carried out in another order has nothing to do with it. -/
def evDrawO (ops : List Oper) : List Oper → List Nat → List Log → T AV → G → Option (T AV × G)
  | [], _, _, tm, g => some (tm, g)
  | o :: os, ancs, logs, tm, g => match ancs with
    | [] => none
    | a :: ancs => match evOne P call ops tm o ⟨g.H, g.n, g.n, [], []⟩ with
      | none => none
      | some (v, g1) => match apartB 0 a g1.rd g1.wr logs with
        | false => none
        | true => match putT N tm o.dst v with
          | none => none
          | some tm => evDrawO ops os ancs (logs ++ [⟨g1.rd, g1.wr, g.n, g1.n⟩]) tm ⟨g1.H, g1.n, g.thr, below? g.thr g1.rd g.rd, below? g.thr g1.wr g.wr⟩
/-- The same, with memory taken apart, the logs reckoned. -/
def evDraw (ops : List Oper) : List Oper → List Nat → List Log → T AV → G → Option (T AV × G)
  | [], _, _, tm, g => some (tm, g)
  | o :: os, ancs, logs, tm, g => match ancs with
    | [] => none
    | a :: ancs => match g with
      | ⟨H, n, thr, rd, wr⟩ => match evOne P call ops tm o ⟨H, n, n, [], []⟩ with
        | none => none
        | some (v, g1) => match g1 with
          | ⟨H1, n1, _, rd1, wr1⟩ => match apartB 0 a rd1 wr1 logs with
            | false => none
            | true => match putT N tm o.dst v with
              | none => none
              | some tm => match appL logs [⟨rd1, wr1, n, n1⟩] with
                | none => none
                | some logs => match Nat.beq thr 0 with
                  | true => evDraw ops os ancs logs tm ⟨H1, n1, thr, rd, wr⟩
                  | false => evDraw ops os ancs logs tm ⟨H1, n1, thr, below? thr rd1 rd, below? thr wr1 wr⟩
theorem below_zero : ∀ (l acc : List Nat), below? 0 l acc = acc
  | [], _ => rfl
  | x :: xs, acc => by
    simp only [below?]
    rw [show Nat.blt x 0 = false from by cases x <;> rfl]
    exact below_zero xs acc
theorem appL_total {α : Type} : ∀ (l m : List α), appL l m = some (l ++ m)
  | [], _ => rfl
  | x :: xs, m => by simp only [appL, appL_total xs m, List.cons_append]
theorem evDraw_def (ops : List Oper) : ∀ (os : List Oper) (ancs : List Nat) (logs : List Log) (tm : T AV) (g : G), evDraw P call N ops os ancs logs tm g = evDrawO P call N ops os ancs logs tm g
  | [], _, _, _, _ => rfl
  | o :: os, [], logs, tm, g => rfl
  | o :: os, a :: ancs, logs, tm, ⟨H, n, thr, rd, wr⟩ => by
    simp only [evDraw, evDrawO]
    cases h : evOne P call ops tm o ⟨H, n, n, [], []⟩ with
    | none => rfl
    | some r =>
      obtain ⟨v, H1, n1, t1, rd1, wr1⟩ := r
      simp only [appL_total]
      cases apartB 0 a rd1 wr1 logs with
      | false => rfl
      | true =>
        simp only
        cases putT N tm o.dst v with
        | none => rfl
        | some tm =>
          simp only
          cases hz : Nat.beq thr 0 with
          | false => exact evDraw_def ops os ancs _ tm _
          | true =>
            obtain rfl : thr = 0 := Nat.eq_of_beq_eq_true hz
            simp only [below_zero]
            exact evDraw_def ops os ancs _ tm _
inductive Ex where
  | normal
  | exit (id : Nat)
  | ret
/-- A range over a function: the marks that it leaves, the jump that is pending. -/
def jumpOf : Nat → Ex
  | 0 => .normal
  | 1 => .ret
  | n + 2 => .exit n
def jumpTo : Ex → Nat
  | .normal => 0
  | .ret => 1
  | .exit n => n + 2
def evRange (nt : Nat) (f : AV) (tm : T AV) (ps : List Nat) (assign body : Code) (g : G) : Option (Nat × Nat × G) :=
  match g.new (.odd (.df true)) with
  | none => none
  | some (kd, g) => match g.new (.odd (.lp 0 0 nt tm ps assign body)) with
    | none => none
    | some (kl, g) => match evCall_ P f [.yl kl] g with
      | some (.call (.fn f) args g) => match call (.fn f) args g with
        | some (_, g) => some (kd, kl, g)
        | none => none
      | _ => none
/-- Behind the function: the pending jump. -/
def evEnd (kl : Nat) (g : G) : Option (Nat × G) := match g.readX kl with
  | some (.lp st jump nt tm ps assign body, g) => match Nat.beq st 1 with
    | true => none
    | false => match g.write kl (some (.odd .ded)) with
      | some g => some (jump, g)
      | none => none
  | _ => none
/-- Code: how it is left, the temporaries, the marks of deferred calls, memory. 'ro': in a loop's round. -/
def evCode (lf : Nat) (ro : Bool) : Code → T AV → List Nat → G → Option (Ex × T AV × List Nat × G)
  | .skip, tm, mk, g => some (.normal, tm, mk, g)
  | .label _, tm, mk, g => some (.normal, tm, mk, g)
  | .region _ ops draw, tm, mk, g => match draw with
    | false => match evOps P call N ops.toList ops.toList tm g with
      | some (tm, g) => some (.normal, tm, mk, g)
      | none => none
    | true => match drawOK ops.toList with
      | some ancs => match evDraw P call N ops.toList ops.toList ancs [] tm g with
        | some (tm, g) => some (.normal, tm, mk, g)
        | none => none
      | none => none
  | .seq a b, tm, mk, g => match evCode lf ro a tm mk g with
    | some (.normal, tm, mk, g) => evCode lf ro b tm mk g
    | r => r
  | .cond c a b, tm, mk, g => match opnd tm c with
    | .v (.bool true) => evCode lf ro a tm mk g
    | .v (.bool false) => evCode lf ro b tm mk g
    | _ => none
  | .block id c, tm, mk, g => match evCode lf ro c tm mk g with
    | some (.exit id', tm, mk, g) => match Nat.beq id' id with
      | true => some (.normal, tm, mk, g)
      | false => some (.exit id', tm, mk, g)
    | r => r
  | .loop c, tm, mk, g => evLoop (evCode lf ro c) lf tm mk g
  | .exit id, tm, mk, g => some (.exit id, tm, mk, g)
  | .scope c, tm, mk, g => evCode lf ro c tm mk g
  | .ret, tm, mk, g => some (.ret, tm, mk, g)
  | .rangeFunc f ps assign body, tm, mk, g => match ro with
    | true => none
    | false => match evRange P call N (opnd tm f) tm ps.toList assign body g with
      | some (kd, kl, g) => match evEnd kl g with
        | some (jump, g) => some (jumpOf jump, tm, kd :: mk, g)
        | none => none
      | none => none
  | _, _, _, _ => none
where evLoop (body : T AV → List Nat → G → Option (Ex × T AV × List Nat × G)) : Nat → T AV → List Nat → G → Option (Ex × T AV × List Nat × G)
  | 0, _, _, _ => none
  | n + 1, tm, mk, g => match body tm mk g with
    | some (.normal, tm, mk, g) => evLoop body n tm mk g
    | r => r
end
/-! ### Loops over maps: all orders, their ends met -/
def eqV0 : Value → Value → Bool
  | .bool a, .bool b => match a, b with
    | true, true => true
    | false, false => true
    | _, _ => false
  | .int k a, .int j b => decide (k = j) && decide (a = b)
  | .string a, .string b => a == b
  | .pointer none, .pointer none => true
  | .slice none n c, .slice none m d => Nat.beq n m && Nat.beq c d
  | .map none, .map none => true
  | .nilFunc, .nilFunc => true
  | _, _ => false
def eqVL : List Value → List Value → Bool
  | [], [] => true
  | a :: l, b :: m => match eqV0 a b with
    | true => eqVL l m
    | false => false
  | _, _ => false
def eqV (a b : Value) : Bool := match a, b with
  | .agg a, .agg b => eqVL a.toList b.toList
  | .tuple a, .tuple b => eqVL a.toList b.toList
  | a, b => eqV0 a b
def eqNL : List Nat → List Nat → Bool
  | [], [] => true
  | a :: l, b :: m => match Nat.beq a b with
    | true => eqNL l m
    | false => false
  | _, _ => false
def assocN (k : Nat) : List (Nat × Nat) → Option Nat
  | [] => none
  | (a, b) :: l => match Nat.beq a k with
    | true => some b
    | false => assocN k l
/-- The name that stands for k on another way: what is older than the loop is itself. -/
def nameR (base : Nat) (ps : List (Nat × Nat)) (k : Nat) : Option Nat := match Nat.blt k base with
  | true => some k
  | false => assocN k ps
def eqN (base : Nat) (ps : List (Nat × Nat)) (k q : Nat) : Bool := match nameR base ps k with
  | some r => Nat.beq r q
  | none => false
def eqCap : Option Nat → Option Nat → Bool
  | none, none => true
  | some a, some b => Nat.beq a b
  | _, _ => false
def leVal (x : Value) : AV → Bool
  | .v y => eqV x y
  | _ => false
def lePtr (base : Nat) (ps : List (Nat × Nat)) (k o : Nat) : AV → Bool
  | .ptr q r => eqN base ps k q && Nat.beq o r
  | _ => false
def leSl (base : Nat) (ps : List (Nat × Nat)) (k o l : Nat) (c : Option Nat) (z : Nat) : AV → Bool
  | .sl q r m d y => eqN base ps k q && (Nat.beq o r && (Nat.beq l m && (eqCap c d && Nat.beq z y)))
  | _ => false
def leMr (base : Nat) (ps : List (Nat × Nat)) (k : Nat) : AV → Bool
  | .mr q => eqN base ps k q
  | _ => false
def isEs : AV → Bool
  | .es => true
  | _ => false
def aggOf : AV → Option (List AV)
  | .agg m => some m
  | .v (.agg y) => some (mapV y.toList)
  | _ => none
def tupOf : AV → Option (List AV)
  | .tup m => some m
  | .v (.tuple y) => some (mapV y.toList)
  | _ => none
mutual
/-- The first one says no more than the second. -/
def leA (base : Nat) (ps : List (Nat × Nat)) : AV → AV → Bool
  | .top, b => oneCell b
  | .v x, b => leVal x b
  | .ptr k o, b => lePtr base ps k o b
  | .sl k o l c z, b => leSl base ps k o l c z b
  | .agg l, b => match aggOf b with
    | some m => leL base ps l m
    | none => false
  | .tup l, b => match tupOf b with
    | some m => leL base ps l m
    | none => false
  | .es, b => isEs b
  | .mr k, b => leMr base ps k b
  | _, _ => false
def leL (base : Nat) (ps : List (Nat × Nat)) : List AV → List AV → Bool
  | [], m => m.isEmpty
  | a :: l, m => match m with
    | [] => false
    | b :: m => match leA base ps a b with
      | true => leL base ps l m
      | false => false
end
def takeM (k : Value) : List Value → List AV → Option (AV × List Value × List AV)
  | x :: xs, a :: vs => match eqV0 k x with
    | true => some (a, xs, vs)
    | false => match takeM k xs vs with
      | some (b, ys, bs) => some (b, x :: ys, a :: bs)
      | none => none
  | _, _ => none
def leM (base : Nat) (ps : List (Nat × Nat)) : List Value → List AV → List Value → List AV → Bool
  | [], [], [], [] => true
  | k :: ks, a :: vs, xs, bs => match takeM k xs bs with
    | some (b, xs, bs) => match leA base ps a b with
      | true => leM base ps ks vs xs bs
      | false => false
    | none => false
  | _, _, _, _ => false
def leRow (base : Nat) (ps : List (Nat × Nat)) : Row → Row → Bool
  | .cells ty ex n p t, .cells ty' ex' n' p' t' => Nat.beq ty ty' && (decide (ex = ex') && (Nat.beq n n' && leL base ps (cellsFrom p t 0 n) (cellsFrom p' t' 0 n')))
  | .odd (.mp ks none vs), .odd (.mp ks' _ vs') => leM base ps ks vs ks' vs'
  | .odd (.mp ks (some (bl, c)) vs), .odd (.mp ks' (some (bl', c')) vs') => eqVL ks ks' && (eqNL bl bl' && (Nat.beq c c' && leL base ps vs vs'))
  | _, _ => false
/-- How one way ended: temporaries, memory, where the names of each round begin. -/
structure Pth where
  tm : T AV
  g : G
  bn : List Nat
def nextHead (ops : List Oper) : Option (Operand × Tmp × List Oper) := match ops with
  | [] => none
  | o :: os => match o.op, o.dst, o.guard with
    | .next x str, some d, none => match str with
      | false => some (x, d, os)
      | true => none
    | _, _, _ => none
section
variable (P : Program) (call : Cl → List AV → G → Option (AV × G)) (N lf : Nat)
def one {α : Type} (r : Option α) : Option (List α) := match r with
  | some r => some [r]
  | none => none
def evNR (ops os : List Oper) (d : Tmp) (tm : T AV) (mk : List Nat) : List (AV × G) → Option (List (Ex × T AV × List Nat × G))
  | [] => some []
  | (a, g) :: rs => match putT N tm (some d) a with
    | some tm1 => match evOps P call N ops os tm1 g, evNR ops os d tm mk rs with
      | some (tm2, g2), some l => some ((.normal, tm2, mk, g2) :: l)
      | _, _ => none
    | none => none
def seqN (f : T AV → List Nat → G → Option (List (Ex × T AV × List Nat × G))) : List (Ex × T AV × List Nat × G) → Option (List (Ex × T AV × List Nat × G))
  | [] => some []
  | (e, tm, mk, g) :: rs => match e with
    | .normal => match f tm mk g, seqN f rs with
      | some xs, some ys => appL xs ys
      | _, _ => none
    | e => match seqN f rs with
      | some ys => some ((e, tm, mk, g) :: ys)
      | none => none
/-- Code, with each step that a loop over a map may take. -/
def evN : Code → T AV → List Nat → G → Option (List (Ex × T AV × List Nat × G))
  | .region id ops draw, tm, mk, g => match draw, nextHead ops.toList with
    | false, some (x, d, os) => match evNexts (opnd tm x) g with
      | some rs => evNR P call N ops.toList os d tm mk rs
      | none => none
    | draw, _ => one (evCode P call N lf false (.region id ops draw) tm mk g)
  | .seq a b, tm, mk, g => match evN a tm mk g with
    | some rs => seqN (evN b) rs
    | none => none
  | c, tm, mk, g => one (evCode P call N lf false c tm mk g)
def collect (id : Nat) (mk : List Nat) (bn : List Nat) (f : T AV → G → List Nat → Option (List Pth)) : List (Ex × T AV × List Nat × G) → Option (List Pth)
  | [] => some []
  | (e, tm, mk', g) :: rs => match eqNL mk mk' with
    | false => none
    | true => match e with
      | .normal => match appL bn [g.n] with
        | some bn1 => match f tm g bn1, collect id mk bn f rs with
          | some xs, some ys => appL xs ys
          | _, _ => none
        | none => none
      | .exit id' => match Nat.beq id' id, collect id mk bn f rs with
        | true, some ys => some (⟨tm, g, bn⟩ :: ys)
        | _, _ => none
      | .ret => none
def loopN (id : Nat) (b : Code) (mk : List Nat) : Nat → T AV → G → List Nat → Option (List Pth)
  | 0, _, _, _ => none
  | n + 1, tm, g, bn => match evN P call N lf b tm mk g with
    | some rs => collect id mk bn (loopN id b mk n) rs
    | none => none
end
/-! What may be said behind the loop: a guess, then what is checked of it. -/
def seenOf (r : AV) (g : G) : List Nat := match r with
  | .ptr r _ => match g.H.get r with
    | some (.odd (.mi _ _ seen _)) => seen
    | _ => []
  | _ => []
def segAt (s : Nat) : List Nat → List Nat → Option (Nat × Nat)
  | x :: xs, a :: bs => match bs with
    | b :: _ => match Nat.beq x s with
      | true => some (a, b)
      | false => segAt s xs bs
    | [] => none
  | _, _ => none
def spread : Nat → Nat → Nat → List (Nat × Nat)
  | 0, _, _ => []
  | n + 1, a, c => forceNat a fun a => forceNat c fun c => (a, c) :: spread n (a + 1) (c + 1)
def pairsN (seen1 bn1 seen2 bn2 : List Nat) : List Nat → List (Nat × Nat)
  | [] => []
  | s :: ss => match segAt s seen1 bn1, segAt s seen2 bn2 with
    | some (a, b), some (c, _) => spread (b - a) a c ++ pairsN seen1 bn1 seen2 bn2 ss
    | _, _ => pairsN seen1 bn1 seen2 bn2 ss
def wkA (base : Nat) (ps : List (Nat × Nat)) : Nat → AV → AV → AV
  | 0, a, b => match leA base ps a b with
    | true => a
    | false => .top
  | n + 1, a, b => match leA base ps a b with
    | true => a
    | false => match a, b with
      | .agg l, .agg m => .agg (wkL (wkA base ps n) l m)
      | .tup l, .tup m => .tup (wkL (wkA base ps n) l m)
      | .agg l, .v (.agg y) => .agg (wkL (wkA base ps n) l (mapV y.toList))
      | .tup l, .v (.tuple y) => .tup (wkL (wkA base ps n) l (mapV y.toList))
      | .v (.agg x), .agg m => .agg (wkL (wkA base ps n) (mapV x.toList) m)
      | .v (.tuple x), .tup m => .tup (wkL (wkA base ps n) (mapV x.toList) m)
      | .v (.agg x), .v (.agg y) => .agg (wkL (wkA base ps n) (mapV x.toList) (mapV y.toList))
      | .v (.tuple x), .v (.tuple y) => .tup (wkL (wkA base ps n) (mapV x.toList) (mapV y.toList))
      | _, _ => .top
where wkL (f : AV → AV → AV) : List AV → List AV → List AV
  | a :: l, b :: m => f a b :: wkL f l m
  | _, _ => []
/-- A way, with the names on it. -/
abbrev PthR := Pth × List (Nat × Nat)
def wkTm (base : Nat) (t : Nat) : List PthR → AV → AV
  | [], a => a
  | (p, ps) :: l, a => wkTm base t l (wkA base ps 2 a (opnd p.tm (.tmp t)))
def tmL (base : Nat) (ps : List PthR) (tm : T AV) (t : Nat) : Nat → List AV
  | 0 => []
  | n + 1 => wkTm base t ps (opnd tm (.tmp t)) :: tmL base ps tm (t + 1) n
def wkRow (base k : Nat) : List PthR → Row → Option Row
  | [], r => some r
  | (p, ps) :: l, r => match nameR base ps k with
    | some q => match p.g.H.get q with
      | some r2 => match leRow base ps r r2 with
        | true => wkRow base k l r
        | false => match r with
          | .odd (.mp ks _ vs) => match leRow base ps (.odd (.mp ks none vs)) r2 with
            | true => wkRow base k l (.odd (.mp ks none vs))
            | false => none
          | _ => none
      | none => none
    | none => none
def rowsU (base : Nat) (H : T Row) (ps : List PthR) : List Nat → List (Nat × Option Row)
  | [] => []
  | k :: ks => (k, match H.get k with
    | some r => wkRow base k ps r
    | none => none) :: rowsU base H ps ks
def addN (l : List Nat) : List Nat → List Nat
  | [] => l
  | k :: ks => match memN k l with
    | true => addN l ks
    | false => addN (k :: l) ks
def allWr : List PthR → List Nat → List Nat
  | [], acc => acc
  | (p, _) :: l, acc => allWr l (addN acc p.g.wr)
def allRd : List PthR → List Nat
  | [] => []
  | (p, _) :: l => p.g.rd ++ allRd l
def fsts : List (Nat × Nat) → List Nat
  | [] => []
  | (a, _) :: l => a :: fsts l
def snds : List (Nat × Nat) → List Nat
  | [] => []
  | (_, b) :: l => b :: snds l
def inN (lo hi : Nat) : List Nat → Bool
  | [] => true
  | k :: l => match Nat.ble lo k, Nat.blt k hi with
    | true, true => inN lo hi l
    | _, _ => false
def subN : List Nat → List Nat → Bool
  | [], _ => true
  | k :: l, m => match memN k m with
    | true => subN l m
    | false => false
def keysU : List (Nat × Option Row) → List Nat
  | [] => []
  | (k, _) :: l => k :: keysU l
/-- The rows that are told stand on the way too. -/
def rowsOK (base : Nat) (ps : List (Nat × Nat)) (H : T Row) : List (Nat × Option Row) → Bool
  | [] => true
  | (k, o) :: l => match o with
    | none => rowsOK base ps H l
    | some r => match nameR base ps k with
      | some q => match H.get q with
        | some r2 => match leRow base ps r r2 with
          | true => rowsOK base ps H l
          | false => false
        | none => false
      | none => false
def opndsT (tm : T AV) (t : Nat) : Nat → List AV
  | 0 => []
  | n + 1 => opnd tm (.tmp t) :: opndsT tm (t + 1) n
/-- What is told of the loop's end holds on this way. -/
def covers (base Nt nC : Nat) (lC : List AV) (us : List (Nat × Option Row)) (wrC : List Nat) (p : Pth) (ps : List (Nat × Nat)) : Bool :=
  Nat.beq p.g.n nC && (noDup (snds ps) && (inN base nC (fsts ps) && (inN base nC (snds ps) && (leL base ps lC (opndsT p.tm 0 Nt) && (rowsOK base ps p.g.H us && (subN p.g.wr (keysU us) && subN p.g.wr wrC))))))
def allCover (base Nt nC : Nat) (lC : List AV) (us : List (Nat × Option Row)) (wrC : List Nat) : List PthR → Bool
  | [] => true
  | (p, ps) :: l => match covers base Nt nC lC us wrC p ps with
    | true => allCover base Nt nC lC us wrC l
    | false => false
def setU (H : T Row) : List (Nat × Option Row) → Option (T Row)
  | [] => some H
  | (k, o) :: l => match setU H l with
    | some H => T.set o fuelT H k
    | none => none
/-- The keys that are older than the loop are among those written. -/
def keysOK (base : Nat) (wrC : List Nat) : List (Nat × Option Row) → Bool
  | [] => true
  | (k, _) :: l => match Nat.ble base k, memN k wrC with
    | false, false => false
    | _, _ => keysOK base wrC l
def withPs (keep : Bool) (r : AV) (seen1 bn1 : List Nat) : List Pth → List PthR
  | [] => []
  | p :: l => (p, match keep with
    | true => pairsN seen1 bn1 (seenOf r p.g) p.bn seen1
    | false => []) :: withPs keep r seen1 bn1 l
def argsT : Nat → T AV → List AV → Option (T AV)
  | _, tm, [] => some tm
  | i, tm, a :: l => match T.set (some a) fuelT tm i with
    | some tm => argsT (i + 1) tm l
    | none => none
/-- Behind a loop over a map. -/
def meet (Nt : Nat) (keep : Bool) (r : AV) (g : G) (paths : List Pth) : Option (T AV × G) := match paths with
  | [] => none
  | p :: _ => match g with
    | ⟨H, n, thr, rd, wr⟩ => match withPs keep r (seenOf r p.g) p.bn paths with
      | prs => match allWr prs [], p.g.n with
        | wrC, nC => match tmL n prs p.tm 0 Nt, rowsU n p.g.H prs (match keep with
            | true => fsts (pairsN (seenOf r p.g) p.bn (seenOf r p.g) p.bn (seenOf r p.g)) ++ wrC
            | false => wrC) with
          | lC, us => match allCover n Nt nC lC us wrC prs, keysOK n wrC us, Nat.ble lC.length Nt with
            | true, true, true => match argsT 0 .nil lC, setU H us with
              | some tm, some H => forceNat nC fun nC => match Nat.beq thr 0 with
                | true => some (tm, ⟨H, nC, thr, rd, wr⟩)
                | false => some (tm, ⟨H, nC, thr, below? thr (allRd prs) rd, below? thr wrC wr⟩)
              | _, _ => none
            | _, _, _ => none
def headNext : Code → Option Operand
  | .seq a _ => headNext a
  | .region _ ops draw => match draw with
    | true => none
    | false => match nextHead ops.toList with
      | some (x, _, _) => some x
      | none => none
  | _ => none
section
variable (P : Program) (call : Cl → List AV → G → Option (AV × G)) (N lf : Nat)
def evMapLoop (keep : Bool) (id : Nat) (b : Code) (x : Operand) (tm : T AV) (mk : List Nat) (g : G) : Option (Ex × T AV × List Nat × G) := match g with
  | ⟨H, n, thr, rd, wr⟩ => match inN 0 n mk, loopN P call N lf id b mk lf tm ⟨H, n, n, [], []⟩ [n] with
    | true, some paths => match meet N keep (opnd tm x) ⟨H, n, thr, rd, wr⟩ paths with
      | some (tm, g) => some (.normal, tm, mk, g)
      | none => none
    | _, _ => none
/-- A function's body, where its own loops may go over maps. -/
def evBody (keep : Bool) : Code → T AV → List Nat → G → Option (Ex × T AV × List Nat × G)
  | .seq a b, tm, mk, g => match evBody keep a tm mk g with
    | some (.normal, tm, mk, g) => evBody keep b tm mk g
    | r => r
  | .block id c, tm, mk, g => match c with
    | .loop b => match headNext b with
      | some x => evMapLoop P call N lf keep id b x tm mk g
      | none => evCode P call N lf false (.block id (.loop b)) tm mk g
    | c => evCode P call N lf false (.block id c) tm mk g
  | c, tm, mk, g => evCode P call N lf false c tm mk g
end
/-- A function's body: its own loops over maps in each order, where that is asked for. -/
def evTop (P : Program) (call : Cl → List AV → G → Option (AV × G)) (N lf : Nat) (keep : Option Bool) (body : Code) (tm : T AV) (mk : List Nat) (g : G) : Option (Ex × T AV × List Nat × G) := match keep with
  | some keep => evBody P call N lf keep body tm mk g
  | none => evCode P call N lf false body tm mk g
section
variable (P : Program)
def resA (tm : T AV) (g : G) : List ResultVar → Option (List AV × G)
  | [] => some ([], g)
  | .tmp t :: l => match resA tm g l with
    | some (xs, g) => some (opnd tm (.tmp t) :: xs, g)
    | none => none
  | .cell t ty :: l => match evLoad P ty (opnd tm (.tmp t)) g with
    | some (.val a g) => match resA tm g l with
      | some (xs, g) => some (a :: xs, g)
      | none => none
    | _ => none
def resOne : List AV → AV
  | [a] => a
  | l => mkTup l
/-- The marks among the deferred calls: no call is left in any. -/
def evMarks : List Nat → G → Option G
  | [], g => some g
  | k :: ks, g => match g.readX k with
    | some (.df true, g) => match g.write k (some (.odd .ded)) with
      | some g => evMarks ks g
      | none => none
    | _ => none
def putsT (nt : Nat) : T AV → List Nat → List AV → Option (T AV)
  | tm, [], [] => some tm
  | tm, p :: ps, a :: l => match putT nt tm (some p) a with
    | some tm => putsT nt tm ps l
    | none => none
  | _, _, _ => none
/-- A round of a loop. -/
def evRound (call : Cl → List AV → G → Option (AV × G)) (lf k : Nat) (args : List AV) (g : G) : Option (AV × G) := match g.readX k with
  | some (.lp st _ nt tm ps assign body, g) => match st, putsT nt tm ps args with
    | 0, some tm => match evCode P call nt lf true assign tm [] g with
      | some (.normal, tm, _, g) => match g.readX k with
        | some (.lp st jump nt' tm' ps' assign' body', g) => match st, g.write k (some (.odd (.lp 1 jump nt' tm' ps' assign' body'))) with
          | 0, some g => match evCode P call nt lf true body tm [] g with
            | some (e, _, _, g) => match g.readX k with
              | some (.lp _ _ nt tm ps assign body, g) => match jumpTo e with
                | 0 => match g.write k (some (.odd (.lp 0 0 nt tm ps assign body))) with
                  | some g => some (.v (.bool true), g)
                  | none => none
                | j + 1 => match g.write k (some (.odd (.lp 2 (j + 1) nt tm ps assign body))) with
                  | some g => some (.v (.bool false), g)
                  | none => none
              | _ => none
            | none => none
          | _, _ => none
        | _ => none
      | _ => none
    | _, _ => none
  | _ => none
/-! ### What stands for some of the library's functions -/
def primClone (args : List AV) (g : G) : Option (AV × G) := match args with
  | [.mr k] => match g.readX k with
    | some (.mp ks bs vs, g) => match g.new (.odd (.mp ks bs vs)) with
      | some (k, g) => some (.mr k, g)
      | none => none
    | _ => none
  | [.v (.map none)] => some (.v (.map none), g)
  | _ => none
def insI (z : Int) : List Int → List Int
  | [] => [z]
  | x :: l => match decide (z ≤ x) with
    | true => z :: x :: l
    | false => x :: insI z l
def sortI : List Int → List Int
  | [] => []
  | z :: l => insI z (sortI l)
def risesI : List Int → Bool
  | [] => true
  | x :: l => match l with
    | [] => true
    | y :: _ => match decide (x < y) with
      | true => risesI l
      | false => false
def intKs : List Value → Option (List Int)
  | [] => some []
  | .int .i64 z :: l => match decide (-9223372036854775808 ≤ z ∧ z ≤ 9223372036854775807), intKs l with
    | true, some zs => some (z :: zs)
    | _, _ => none
  | _ => none
def intsA : List Int → List AV
  | [] => []
  | z :: l => forceInt z fun z => .v (.int .i64 z) :: intsA l
/-- slices.Sorted(maps.Keys(m)), at a map by ints. -/
def primSorted (keysF : FuncId) (elemT : TypeId) (args : List AV) (g : G) : Option (AV × G) := match args with
  | [.fn (.func f) [] [.ptr b 0]] => match Nat.beq f keysF, g.read b with
    | true, some (l, g) => match rowGet l 0 with
      | some (.mr k) => match g.readX k with
        | some (.mp ks _ _, g) => match intKs ks, Nat.ble ks.length 1000 with
          | some zs, true => match sortI zs with
            | [] => some (.v (.slice none 0 0), g)
            | z :: l => match risesI (z :: l), g.newL elemT false (intsA (z :: l)) with
              | true, some (k, g) => forceNat (z :: l).length fun n => some (.sl k 0 n none 1, g)
              | _, _ => none
          | _, _ => none
        | _ => none
      | _ => none
    | _, _ => none
  | _ => none
def tryP (p : Option (List AV → G → Option (AV × G))) (args : List AV) (g : G) : Option (AV × G) := match p with
  | some p => p args g
  | none => none
def evFn (pr : FuncId → Option (List AV → G → Option (AV × G))) (nd : FuncId → Option Bool) (lf : Nat) : Nat → Cl → List AV → G → Option (AV × G)
  | 0, _, _, _ => none
  | d + 1, .yl k, args, g => evRound P (evFn pr nd lf d) lf k args g
  | d + 1, .fn f, args, g => match tryP (pr f) args g with
   | some r => some r
   | none => match P.funcs[f]? with
    | none => none
    | some fn => match fn.body with
      | none => none
      | some body => match Nat.ble args.length fn.ntmps, argsT 0 .nil args with
        | true, some tm => match evTop P (evFn pr nd lf d) fn.ntmps lf (nd f) body tm [] g with
          | some (.normal, tm, mk, g) | some (.ret, tm, mk, g) => match evMarks mk g with
            | some g => match resA P tm g fn.results.toList with
              | some (xs, g) => some (resOne xs, g)
              | none => none
            | none => none
          | _ => none
        | _, _ => none
def g0 : G := ⟨.nil, 0, 0, [], []⟩
/-! ### Calls that are reckoned once, by themselves -/
/-- A call: the function, its arguments, the names that there are, the rows that it looks at; what it hands back, the rows that it leaves (none: no more is said of it), the names that there are then; the old names that it has looked at, and written. -/
structure Orc where
  f : FuncId
  args : List AV
  n : Nat
  pre : List (Nat × Row)
  av : AV
  us : List (Nat × Option Row)
  nC : Nat
  keep : List Nat
/-- A row, by its cells. -/
def rowL (ty : Nat) (ex : Bool) (l : List AV) : Row := match rowOf ty ex l with
  | some r => r
  | none => .odd .ded
def preT : List (Nat × Row) → Option (T Row)
  | [] => some .nil
  | (k, r) :: l => match preT l with
    | some H => T.set (some r) fuelT H k
    | none => none
def selfP : List Nat → List (Nat × Nat)
  | [] => []
  | k :: l => (k, k) :: selfP l
def preN : List (Nat × Row) → List Nat
  | [] => []
  | (k, _) :: l => k :: preN l
def wrO : List (Nat × Option Row) → Nat → List Nat
  | [], _ => []
  | (k, _) :: l, n => match Nat.blt k n with
    | true => k :: wrO l n
    | false => wrO l n
/-- Where the call may be looked up: what it looks at stands so. -/
def preOK (n : Nat) (H : T Row) : List (Nat × Row) → Bool
  | [] => true
  | (k, r) :: l => match H.get k with
    | some r2 => match leRow n [] r r2 with
      | true => preOK n H l
      | false => false
    | none => false
def orcRun (o : Orc) (args : List AV) (g : G) : Option (AV × G) := match g with
  | ⟨H, n, thr, rd, wr⟩ => match Nat.beq o.n n with
    | false => none
    | true => match leL n [] o.args args, preOK n H o.pre with
      | true, true => match setU H o.us with
        | some H => match Nat.beq thr 0 with
          | true => some (o.av, ⟨H, o.nC, thr, rd, wr⟩)
          | false => some (o.av, ⟨H, o.nC, thr, below? thr (preN o.pre) rd, below? thr (wrO o.us n) wr⟩)
        | none => none
      | _, _ => none
def tryO (f : FuncId) (args : List AV) (g : G) : List Orc → Option (AV × G)
  | [] => none
  | o :: os => match Nat.beq o.f f with
    | true => match orcRun o args g with
      | some r => some r
      | none => tryO f args g os
    | false => tryO f args g os
/-- With those calls. -/
def prO (os : List Orc) (pr : FuncId → Option (List AV → G → Option (AV × G))) : FuncId → Option (List AV → G → Option (AV × G)) := fun f => some fun args g => match tryP (pr f) args g with
  | some r => some r
  | none => tryO f args g os
/-- The call gives what is told of it. -/
def orcEv (pr : FuncId → Option (List AV → G → Option (AV × G))) (nd : FuncId → Option Bool) (lf d : Nat) (o : Orc) : Bool := match preT o.pre with
  | none => false
  | some H => match evFn P pr nd lf d (.fn o.f) o.args ⟨H, o.n, o.n, [], []⟩ with
    | none => false
    | some (av, g) => match covers o.n 1 o.nC [o.av] o.us (wrO o.us o.n) ⟨.node .nil (some av) .nil, g, []⟩ (selfP o.keep), keysOK o.n (wrO o.us o.n) o.us, inN 0 o.n (preN o.pre), subN g.rd (preN o.pre), subN (wrO o.us o.n) (preN o.pre) with
      | true, true, true, true, true => true
      | _, _, _, _, _ => false
/-- A closed call returns true. -/
def isTrue (pr : FuncId → Option (List AV → G → Option (AV × G))) (nd : FuncId → Option Bool) (lf d : Nat) (f : FuncId) : Bool := match evFn P pr nd lf d (.fn f) [] g0 with
  | some (.v (.bool true), _) => true
  | _ => false
end
end
end Go.Proofs.YtjblkeofjkdpbaaGreatDoor.Eng
