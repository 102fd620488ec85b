/- An evaluator of closed calls: definitions. Memory is kept by names; a call is run once, in the text's order; what Go leaves open (orders, capacities) is left open. No condition. -/
import Derived.Test.YtoifejinppjeeaaProg
import Derived.Calls
import Derived.Orders
import Derived.Below
import Derived.Laws.BytesArg
import Derived.Deep.MidRow
import Derived.Deep.AppendSrc
import Derived.Laws.MakeOwn
import Derived.Laws.AppendOwn
import Derived.Lib.ConvBytes
import Derived.Lib.Builder
import Derived.Lib.UnsafeStr
namespace Go.Proofs.Ytoifejinppjeeaa.Eng
open Go
set_option linter.unusedVariables false
noncomputable section

/-! ### A tree of values by number -/
inductive T (α : Type) where
  | nil
  | node (l : T α) (v : Option α) (r : T α)
section
variable {α : Type}
def T.get (t : T α) (k : Nat) : Option α :=
  T.rec (motive := fun _ => Nat → Option α) (fun _ => none)
    (fun _ v _ gl gr k => Bool.rec (motive := fun _ => Option α) (Bool.rec (motive := fun _ => Option α) (gr (Nat.sub (Nat.div k 2) 1)) (gl (Nat.div k 2)) (Nat.beq (Nat.mod k 2) 1)) v (Nat.beq k 0)) t k
/-- A tree of one value. -/
def T.one (v : Option α) (f k : Nat) : Option (T α) :=
  Nat.rec (motive := fun _ => Nat → Option (T α)) (fun _ => none)
    (fun _ ih k => Bool.rec (motive := fun _ => Option (T α))
      (Bool.rec (motive := fun _ => Option (T α))
        (Option.rec (motive := fun _ => Option (T α)) none (fun r => some (.node .nil none r)) (ih (Nat.sub (Nat.div k 2) 1)))
        (Option.rec (motive := fun _ => Option (T α)) none (fun l => some (.node l none .nil)) (ih (Nat.div k 2))) (Nat.beq (Nat.mod k 2) 1))
      (some (.node .nil v .nil)) (Nat.beq k 0)) f k
/-- Strict: the path is built anew before the answer is there. -/
def T.set (v : Option α) (f : Nat) (t : T α) (k : Nat) : Option (T α) :=
  T.rec (motive := fun _ => Nat → Option (T α)) (fun k => T.one v f k)
    (fun l x r sl sr k => Bool.rec (motive := fun _ => Option (T α))
      (Bool.rec (motive := fun _ => Option (T α))
        (Option.rec (motive := fun _ => Option (T α)) none (fun r => some (.node l x r)) (sr (Nat.sub (Nat.div k 2) 1)))
        (Option.rec (motive := fun _ => Option (T α)) none (fun l => some (.node l x r)) (sl (Nat.div k 2))) (Nat.beq (Nat.mod k 2) 1))
      (some (.node l v r)) (Nat.beq k 0)) t k
end
def setL {α : Type} (v : α) : List α → Nat → Option (List α)
  | [], _ => none
  | x :: xs, k => match k with
    | 0 => some (v :: xs)
    | k + 1 => match setL v xs k with
      | some ys => some (x :: ys)
      | none => none
def getL {α : Type} : List α → Nat → Option α
  | [], _ => none
  | x :: xs, k => match k with
    | 0 => some x
    | k + 1 => getL xs k
/-- The first n, strictly; none where there are fewer. -/
def takeL {α : Type} : Nat → List α → Option (List α)
  | 0, _ => some []
  | n + 1, l => match l with
    | [] => none
    | x :: xs => match takeL n xs with
      | some ys => some (x :: ys)
      | none => none
def dropL {α : Type} : Nat → List α → Option (List α)
  | 0, l => some l
  | n + 1, l => match l with
    | [] => none
    | _ :: xs => dropL n xs
def appL {α : Type} : List α → List α → Option (List α)
  | [], ys => some ys
  | x :: xs, ys => match appL xs ys with
    | some zs => some (x :: zs)
    | none => none
def repL {α : Type} (x : List α) : Nat → Option (List α)
  | 0 => some []
  | n + 1 => match repL x n with
    | some l => appL x l
    | none => none
/-- The values from place k on are replaced. -/
def setsL {α : Type} (l : List α) (k : Nat) : List α → Option (List α)
  | [] => some l
  | v :: vs => match setL v l k with
    | some l => setsL l (k + 1) vs
    | none => none

/-! ### Values -/
inductive AV where
  | v (x : Value)
  | ptr (k off : Nat)
  | sl (k off len : Nat) (cap : Option Nat) (sz : Nat)
  | agg (l : List AV)
  | tup (l : List AV)
  | fn (f : Fn) (first captured : List AV)
  /-- A slice of nothing, not nil, wherever it points. -/
  | es
  /-- The function that a range over a function hands over. -/
  | yl (k : Nat)
  /-- A loop's record: 0 ready, 1 busy, 2 done, 3 exhausted; the pending jump: 0 none, 1 return, n + 2 exit n. -/
  | lp (st jump nt : Nat) (tm : T AV) (ps : List Nat) (assign body : Code)
  /-- The block for a loop's deferred calls: open, or shut. -/
  | df (o : Bool)
  /-- A block that is no cells and is done with. -/
  | ded
/-- Strict: a value of plain parts in its last form. -/
def forceNat {β : Type} (n : Nat) (k : Nat → β) : β := match n with
  | 0 => k 0
  | m + 1 => k (m + 1)
def forceInt {β : Type} (n : Int) (k : Int → β) : β :=
  match n with
  | .ofNat m => forceNat m fun m => k (.ofNat m)
  | .negSucc m => forceNat m fun m => k (.negSucc m)
def forceV {β : Type} (v : Value) (k : Value → β) : β :=
  match v with
  | .int i n => forceInt n fun n => k (.int i n)
  | .bool b => match b with
    | true => k (.bool true)
    | false => k (.bool false)
  | v => k v
/-- A value in its outer form, and on with it. -/
def forceA {β : Type} (a : AV) (k : AV → β) : β := match a with
  | .v x => match x with
    | .int i n => k (.v (.int i n))
    | .bool b => k (.v (.bool b))
    | .agg l => k (.v (.agg l))
    | x => k (.v x)
  | .ptr b o => k (.ptr b o)
  | .sl b o n c z => k (.sl b o n c z)
  | .agg l => k (.agg l)
  | .tup l => k (.tup l)
  | a => k a
def allV : List AV → Option (List Value)
  | [] => some []
  | x :: xs => match x with
    | .v y => match allV xs with
      | some ys => some (y :: ys)
      | none => none
    | _ => none
def mapV : List Value → List AV
  | [] => []
  | x :: xs => .v x :: mapV xs
def mkAgg (l : List AV) : AV := match allV l with
  | some vs => .v (.agg vs.toArray)
  | none => .agg l
def mkTup (l : List AV) : AV := match allV l with
  | some vs => .v (.tuple vs.toArray)
  | none => .tup l
def mkFn (f : Fn) (a b : List AV) : AV := match allV a, allV b with
  | some x, some y => .v (.func f x.toArray y.toArray)
  | _, _ => .fn f a b
/-- The cells of a value. -/
def AV.cells : AV → List AV
  | .v x => mapV x.cells.toList
  | .agg l => l
  | a => [a]

/-- What a program of the model answers where it asks nothing of the world. -/
def ev? {α : Type} (P : Program) : Sem α → Option α
  | .pure a => some a
  | .program k => ev? P (k P)
  | .mark _ k => ev? P k
  | _ => none

/-! ### Memory by names -/
/-- A block: its type; whether it has no cells more; so many cells (what is not in the tree is as the pattern says, again and again); or one thing that is no cells. -/
inductive Row where
  | cells (ty : Nat) (ex : Bool) (n : Nat) (pat : List AV) (t : T AV)
  | odd (a : AV)
def cellAt (pat : List AV) (t : T AV) (i : Nat) : AV := match t.get i with
  | some a => a
  | none => match getL pat (Nat.mod i pat.length) with
    | some a => a
    | none => .v undef
def Row.toL : Row → List AV
  | .cells _ _ n pat t => (List.range n).map (cellAt pat t)
  | .odd a => [a]
def Row.ty : Row → Nat
  | .cells ty _ _ _ _ => ty
  | .odd _ => 0
def Row.ex : Row → Bool
  | .cells _ ex _ _ _ => ex
  | .odd _ => false
def cellsFrom (pat : List AV) (t : T AV) (off : Nat) : Nat → List AV
  | 0 => []
  | n + 1 => forceA (cellAt pat t off) fun a => forceNat (off + 1) fun off => a :: cellsFrom pat t off n
def rowSlice (r : Row) (off n : Nat) : Option (List AV) := match r with
  | .cells _ _ m pat t => match Nat.ble (off + n) m with
    | true => some (cellsFrom pat t off n)
    | false => none
  | .odd _ => none
def rowGet (r : Row) (i : Nat) : Option AV := match r with
  | .cells _ _ m pat t => match Nat.blt i m with
    | true => some (cellAt pat t i)
    | false => none
  | .odd _ => none
def setsT (t : T AV) (off : Nat) : List AV → Option (T AV)
  | [] => some t
  | a :: l => forceA a fun a => match T.set (some a) 64 t off with
    | some t => forceNat (off + 1) fun off => setsT t off l
    | none => none
def rowSets (r : Row) (off : Nat) (cs : List AV) : Option Row := match r with
  | .cells ty ex m pat t => match Nat.ble (off + cs.length) m, setsT t off cs with
    | true, some t => some (.cells ty ex m pat t)
    | _, _ => none
  | .odd _ => none
/-- With more cells behind them. -/
def rowApp (ex : Bool) (r : Row) (cs : List AV) : Option Row := match r with
  | .cells ty _ m pat t => match setsT t m cs with
    | some t => forceNat (m + cs.length) fun m => some (.cells ty ex m pat t)
    | none => none
  | .odd _ => none
def rowOf (ty : Nat) (ex : Bool) (l : List AV) : Option Row := rowApp ex (.cells ty true 0 [] .nil) l
structure G where
  H : T Row
  n : Nat
  thr : Nat
  rd : List Nat
  wr : List Nat
def fuelT : Nat := 64
def G.read (g : G) (k : Nat) : Option (Row × G) :=
  match g.H.get k with
  | none => none
  | some l => match l with
    | .odd _ => none
    | .cells ty ex n pat t => match Nat.blt k g.thr with
      | true => some (.cells ty ex n pat t, ⟨g.H, g.n, g.thr, k :: g.rd, g.wr⟩)
      | false => some (.cells ty ex n pat t, g)
/-- A block that holds no cells. -/
def G.readX (g : G) (k : Nat) : Option (AV × G) :=
  match g.H.get k with
  | none => none
  | some l => match l with
    | .odd a => match Nat.blt k g.thr with
      | true => some (a, ⟨g.H, g.n, g.thr, k :: g.rd, g.wr⟩)
      | false => some (a, g)
    | .cells _ _ _ _ _ => none
def G.write (g : G) (k : Nat) (o : Option Row) : Option G :=
  match T.set o fuelT g.H k with
  | none => none
  | some H => match Nat.blt k g.thr with
    | true => some ⟨H, g.n, g.thr, k :: g.rd, k :: g.wr⟩
    | false => match Nat.blt k g.n with
      | true => some ⟨H, g.n, g.thr, g.rd, g.wr⟩
      | false => none
def G.new (g : G) (l : Row) : Option (Nat × G) :=
  match T.set (some l) fuelT g.H g.n with
  | none => none
  | some H => forceNat (g.n + 1) fun n => some (g.n, ⟨H, n, g.thr, g.rd, g.wr⟩)
def G.newL (g : G) (ty : Nat) (ex : Bool) (l : List AV) : Option (Nat × G) := match rowOf ty ex l with
  | some r => g.new r
  | none => none

/-! ### One operation -/
section
variable (P : Program)
def opnd (tm : T AV) : Operand → AV
  | .tmp t => match tm.get t with
    | some a => a
    | none => .v undef
  | .const x => .v x
  | .global g => .v (.pointer (some ⟨g, 0, none⟩))
  | .func f => .v (.func (.func f) #[] #[])
def opnds (tm : T AV) : List Operand → List AV
  | [] => []
  | x :: xs => opnd tm x :: opnds tm xs
/-- What is called: a function, or a loop's next round. -/
inductive Cl where
  | fn (f : FuncId)
  | yl (k : Nat)
inductive OpR where
  | val (a : AV) (g : G)
  | call (f : Cl) (args : List AV) (g : G)
/-- A plain value, in its last form. -/
def plainR (s : Sem Value) (g : G) : Option OpR := match ev? P s with
  | some v => forceV v fun v => some (.val (.v v) g)
  | none => none
/-- The number of cells of a type; whether it has several in a row. -/
def szOf (t : TypeId) : Option Nat := (P.info? t).map (·.size)
def aggT (t : TypeId) : Option Bool := (P.underlying t).map fun d => match d with
  | .struct _ | .array _ _ => true
  | _ => false
def zeroT (t : TypeId) : Option (List AV) := match P.info? t with
  | some i => match i.zero with
    | some z => some (mapV z.cells.toList)
    | none => none
  | none => none
/-- Cells off .. off + n of a row. -/
def slice? (l : List AV) (off n : Nat) : Option (List AV) := match dropL off l with
  | some l => takeL n l
  | none => none
def part? (t : TypeId) (l : List AV) (off : Nat) : Option AV :=
  match aggT P t with
  | some true => match szOf P t with
    | some n => match slice? l off n with
      | some cs => some (mkAgg cs)
      | none => none
    | none => none
  | some false => getL l off
  | none => none
/-- A part of a block. -/
def partR (t : TypeId) (r : Row) (off : Nat) : Option AV :=
  match aggT P t with
  | some true => match szOf P t with
    | some n => match rowSlice r off n with
      | some cs => some (mkAgg cs)
      | none => none
    | none => none
  | some false => rowGet r off
  | none => none
def intOf? : AV → Option Int
  | .v (.int _ n) => some n
  | _ => none
/-- 0 ≤ n ≤ y. -/
def bound? (x : AV) (y : Nat) : Option Nat := match x with
  | .v (.int _ (.ofNat n)) => match Nat.ble n y with
    | true => some n
    | false => none
  | _ => none
def obound? (x : Option AV) (y d : Nat) : Option Nat := match x with
  | none => some d
  | some x => bound? x y
/-- The cells that the slice's first n elements (of size cells) have. -/
def cellsOf (size : Nat) (a : AV) (n : Nat) (g : G) : Option (List AV × G) := match a with
  | .sl k off len _ sz => match Nat.ble n len, Nat.beq sz size with
    | true, true => match g.read k with
      | some (l, g) => match rowSlice l off (n * size) with
        | some cs => some (cs, g)
        | none => none
      | none => none
    | _, _ => none
  | .v (.slice none _ _) => match n with
    | 0 => some ([], g)
    | _ + 1 => none
  | .es => match n with
    | 0 => some ([], g)
    | _ + 1 => none
  | .v (.string s) => match Nat.ble n s.size, Nat.beq size 1 with
    | true, true => some (mapV ((s.extract 0 n).data.map fun b => Value.int .u8 b.toNat).toList, g)
    | _, _ => none
  | _ => none
def lenOf? : AV → Option Nat
  | .sl _ _ n _ _ => some n
  | .v (.slice none n _) => some n
  | .es => some 0
  | .v (.string s) => some s.size
  | _ => none
end

/-! ### Operations -/
section
variable (P : Program)
def eqGuarded (op : BinOp) (t : TypeId) (x y : Operand) (a b : Value) : Sem Value := do eqGuard op t x y a b; binOp op t a b
/-- Equality where a side is the call's own. -/
def ownEq (t : TypeId) (a b : AV) (g : G) : Option (Bool × G) := match P.underlying t, a, b with
  | some (.pointer e), .ptr k o, .ptr j p => match Nat.beq k j, szOf P e, g.read k with
    | true, some (_ + 1), some (_, g) => some (Nat.beq o p, g)
    | _, _, _ => none
  | some (.pointer _), .ptr _ _, .v (.pointer none) => some (false, g)
  | some (.pointer _), .v (.pointer none), .ptr _ _ => some (false, g)
  | some (.slice _), .sl _ _ _ _ _, .v (.slice none _ _) => some (false, g)
  | some (.slice _), .v (.slice none _ _), .sl _ _ _ _ _ => some (false, g)
  | some (.func _ _ _), .fn _ _ _, .v .nilFunc => some (false, g)
  | some (.func _ _ _), .v .nilFunc, .fn _ _ _ => some (false, g)
  | _, _, _ => none
def oneCell : AV → Bool
  | .v (.agg _) => false
  | .v (.tuple _) => false
  | .agg _ => false
  | .tup _ => false
  | _ => true
def allOne : List AV → Bool
  | [] => true
  | a :: l => match oneCell a with
    | true => allOne l
    | false => false
def fillA (place : Nat → Option (Nat × Nat)) (cells : List AV) : List (Nat × AV) → Option (List AV)
  | [] => some cells
  | (i, a) :: rest => match place i with
    | none => none
    | some (off, size) =>
      match Nat.beq a.cells.length size, Nat.ble (off + size) cells.length with
      | true, true => match setsL cells off a.cells with
        | some cells => fillA place cells rest
        | none => none
      | _, _ => none
def partsA (tm : T AV) : List (Nat × Operand) → List (Nat × AV)
  | [] => []
  | (i, x) :: l => (i, opnd tm x) :: partsA tm l
def placesA : List Field → Option (List (Nat × Nat))
  | [] => some []
  | f :: fs => match szOf P f.type, placesA fs with
    | some n, some l => some ((f.offset, n) :: l)
    | _, _ => none
def evBuild (t : TypeId) (parts : List (Nat × AV)) : Option AV :=
  match zeroT P t, P.underlying t with
  | some zero, some (.struct fields) => match placesA P fields.toList with
    | some pl => match fillA (fun i => getL pl i) zero parts with
      | some cells => some (mkAgg cells)
      | none => none
    | none => none
  | some zero, some (.array _ elem) => match szOf P elem with
    | some size => match fillA (fun i => some (i * size, size)) zero parts with
      | some cells => some (mkAgg cells)
      | none => none
    | none => none
  | _, _ => none
/-- So many noughts of a type, in a new block. -/
def evRow (elem : TypeId) (n : Nat) : Option (List AV × Nat) :=
  match szOf P elem, zeroT P elem with
  | some size, some zero => match Nat.beq zero.length size with
    | true => match repL zero n with
      | some cells => some (cells, size)
      | none => none
    | false => none
  | _, _ => none
def evBuildSlice (t : TypeId) (len : Nat) (parts : List (Nat × AV)) (g : G) : Option OpR :=
  match P.underlying t with
  | some (.slice elem) => match evRow P elem len with
    | some (cells, size) => match Nat.ble (len * size) 16777216 with
      | true => match fillA (fun i => some (i * size, size)) cells parts with
        | some cells => match g.newL elem true cells with
          | some (k, g) => some (.val (.sl k 0 len (some len) size) g)
          | none => none
        | none => none
      | false => none
    | none => none
  | _ => none
def evMakeSlice (t : TypeId) (l c : AV) (g : G) : Option OpR :=
  match P.underlying t, l, c with
  | some (.slice elem), .v (.int _ (.ofNat l)), .v (.int _ (.ofNat c)) =>
    match Nat.ble l c, Nat.ble c 1048576, P.info? elem with
    | true, true, some i => match Nat.ble i.bytes 1024 with
      | true => match szOf P elem, zeroT P elem with
        | some size, some zero => match Nat.beq zero.length size, g.new (.cells elem true (c * size) zero .nil) with
          | true, some (k, g) => some (.val (.sl k 0 l (some c) size) g)
          | _, _ => none
        | _, _ => none
      | false => none
    | _, _, _ => none
  | _, _, _ => none
def evLoad (t : TypeId) (a : AV) (g : G) : Option OpR := match a with
  | .ptr k off => match g.read k with
    | some (l, g) => match partR P t l off with
      | some v => some (.val v g)
      | none => none
    | none => none
  | _ => none
def evStore (t : TypeId) (a x : AV) (g : G) : Option OpR := match a with
  | .ptr k off =>
    match szOf P t, g.read k with
    | some n, some (l, g) => match Nat.beq x.cells.length n, allOne x.cells with
      | true, true => match rowSets l off x.cells with
        | some l => match g.write k (some l) with
          | some g => some (.val (.v undef) g)
          | none => none
        | none => none
      | _, _ => none
    | _, _ => none
  | _ => none
def evSliceA (t : TypeId) (x : AV) (lo hi mx : Option AV) (g : G) : Option OpR :=
  match P.underlying t, x with
  | some (.array n elem), .ptr k off => match szOf P elem, obound? mx n n with
    | some size, some m => match obound? hi m n with
      | some h => match obound? lo h 0 with
        | some l => match Nat.beq m l with
          | true => some (.val (.sl k off (h - l) (some (m - l)) size) g)
          | false => some (.val (.sl k (off + l * size) (h - l) (some (m - l)) size) g)
        | none => none
      | none => none
    | _, _ => none
  | some (.slice elem), .sl k off len cap sz => match szOf P elem with
    | some size => match Nat.beq size sz with
      | true => match cap with
        | some c => match obound? mx c c with
          | some m => match obound? hi m len with
            | some h => match obound? lo h 0 with
              | some l => match Nat.beq m l with
                | true => some (.val (.sl k off (h - l) (some (m - l)) sz) g)
                | false => some (.val (.sl k (off + l * sz) (h - l) (some (m - l)) sz) g)
              | none => none
            | none => none
          | none => none
        | none => match mx with
          | some mx => match bound? mx len with
            | some m => match obound? hi m len with
              | some h => match obound? lo h 0 with
                | some l => match Nat.beq m l with
                  | true => some (.val (.sl k off (h - l) (some (m - l)) sz) g)
                  | false => some (.val (.sl k (off + l * sz) (h - l) (some (m - l)) sz) g)
                | none => none
              | none => none
            | none => none
          | none => match obound? hi len len with
            | some h => match obound? lo h 0 with
              | some l => match Nat.blt l len, Nat.beq l 0 with
                | true, _ => some (.val (.sl k (off + l * sz) (h - l) none sz) g)
                | false, true => some (.val (.sl k off h none sz) g)
                | false, false => some (.val .es g)
              | none => none
            | none => none
      | false => none
    | none => none
  | _, .v x => match lo, hi, mx with
    | none, none, none => plainR P (Instr.sliceAt t x none none none) g
    | some (.v l), none, none => plainR P (Instr.sliceAt t x (some l) none none) g
    | none, some (.v h), none => plainR P (Instr.sliceAt t x none (some h) none) g
    | some (.v l), some (.v h), none => plainR P (Instr.sliceAt t x (some l) (some h) none) g
    | some (.v l), some (.v h), some (.v m) => plainR P (Instr.sliceAt t x (some l) (some h) (some m)) g
    | none, some (.v h), some (.v m) => plainR P (Instr.sliceAt t x none (some h) (some m)) g
    | _, _, _ => none
  | _, _ => none
def evSlice (t : TypeId) (x : AV) (lo hi mx : Option AV) (g : G) : Option OpR := match hi, mx with
  | none, some _ => none
  | hi, mx => evSliceA P t x lo hi mx g
def evIndexAddr (t : TypeId) (x i : AV) : Option AV := match P.underlying t, x, i with
  | some (.array len elem), .ptr k off, .v (.int _ (.ofNat i)) => match Nat.blt i len, szOf P elem with
    | true, some size => some (.ptr k (off + i * size))
    | _, _ => none
  | some (.slice elem), .sl k off len _ sz, .v (.int _ (.ofNat i)) => match Nat.blt i len, szOf P elem with
    | true, some size => match Nat.beq size sz with
      | true => some (.ptr k (off + i * size))
      | false => none
    | _, _ => none
  | _, _, _ => none
def evFieldAddr (s : TypeId) (x : AV) (f : Nat) : Option AV := match P.underlying s, x with
  | some (.struct fields), .ptr k off => match fields[f]? with
    | some f => match szOf P f.type with
      | some (_ + 1) => some (.ptr k (off + f.offset))
      | _ => none
    | none => none
  | _, _ => none
def evField (t : TypeId) (x : AV) (f : Nat) (g : G) : Option OpR := match x with
  | .v x => plainR P (Instr.field t x f) g
  | .agg l => match P.underlying t with
    | some (.struct fields) => match fields[f]? with
      | some f => match part? P f.type l f.offset with
        | some v => some (.val v g)
        | none => none
      | none => none
    | _ => none
  | _ => none
/-- A slice's cells and some more: the block's own tree, where the slice is the whole block. -/
def growRow (elem size k len sz : Nat) (new : List AV) (g : G) : Option (Row × G) := match g.read k with
  | some (.cells ty ex m pat t, g) => match Nat.beq sz size, Nat.beq ty elem, Nat.beq m (len * size) with
    | true, true, true => match rowApp false (.cells ty ex m pat t) new with
      | some r => some (r, g)
      | none => none
    | true, true, false => match rowSlice (.cells ty ex m pat t) 0 (len * size) with
      | some old => match appL old new with
        | some all => match rowOf ty false all with
          | some r => some (r, g)
          | none => none
        | none => none
      | none => none
    | _, _, _ => none
  | _ => none
/-- New cells behind those of a slice: in a new row, or where there is room. -/
def evAppendTo (elem size m : Nat) (s : AV) (new : List AV) (g : G) : Option OpR := match s with
  | .v (.slice none 0 0) => match m with
    | 0 => some (.val (.v (.slice none 0 0)) g)
    | m + 1 => match Nat.ble (m + 1) 1048576, g.newL elem false new with
      | true, some (k, g) => some (.val (.sl k 0 (m + 1) none size) g)
      | _, _ => none
  | .sl k off len cap sz => match m, Nat.beq sz size, Nat.ble (len + m) 1048576 with
    | 0, true, _ => some (.val (.sl k off len cap sz) g)
    | m + 1, true, true => match cap with
      | some c => match Nat.ble (len + (m + 1)) c with
        | true => match g.read k with
          | some (l, g) => match rowSets l (off + len * size) new with
            | some l => match g.write k (some l) with
              | some g => some (.val (.sl k off (len + (m + 1)) (some c) sz) g)
              | none => none
            | none => none
          | none => none
        | false => match cellsOf size (.sl k off len (some c) sz) len g with
          | some (old, g) => match appL old new with
            | some all => match g.newL elem false all with
              | some (k, g) => some (.val (.sl k 0 (len + (m + 1)) none sz) g)
              | none => none
            | none => none
          | none => none
      | none => match Nat.beq off 0, growRow elem size k len sz new g with
        | true, some (all, g) => match g.write k none with
          | some g => match g.new all with
            | some (k, g) => some (.val (.sl k 0 (len + (m + 1)) none sz) g)
            | none => none
          | none => none
        | _, _ => none
    | _, _, _ => none
  | _ => none
def evAppend (t : TypeId) (s x : AV) (g : G) : Option OpR := match P.underlying t with
  | some (.slice elem) => match szOf P elem, lenOf? x, P.info? elem, zeroT P elem with
    | some size, some m, some inf, some zero => match Nat.ble inf.bytes 1024, Nat.beq zero.length size, cellsOf size x m g with
      | true, true, some (new, g) => match allOne new with
        | true => evAppendTo elem size m s new g
        | false => none
      | _, _, _ => none
    | _, _, _, _ => none
  | _ => none
def minN (m n : Nat) : Nat := match Nat.ble m n with
  | true => m
  | false => n
def evCopy (t : TypeId) (d s : AV) (g : G) : Option OpR := match P.underlying t with
  | some (.slice elem) => match szOf P elem, lenOf? s, lenOf? d with
    | some size, some m, some n => match cellsOf size s (minN m n) g with
      | some (cs, g) => match d with
        | .v (.slice none _ _) => some (.val (.v (goInt (minN m n : Nat))) g)
        | .sl k off _ _ sz => match Nat.beq sz size, g.read k with
          | true, some (l, g) => match rowSets l off cs, allOne cs with
            | some l, true => match g.write k (some l) with
              | some g => some (.val (.v (goInt (minN m n : Nat))) g)
              | none => none
            | _, _ => none
          | _, _ => none
        | _ => none
      | none => none
    | _, _, _ => none
  | _ => none
def bytesAV : List AV → Option (List Int)
  | [] => some []
  | .v (.int .u8 n) :: l => match bytesAV l with
    | some bs => some (n :: bs)
    | none => none
  | _ => none
def evConvert (src dst : TypeId) (x : AV) (g : G) : Option OpR := match x with
  | .v (.string s) => match P.underlying dst, P.underlying src with
    | some (.slice e), some _ => match P.underlying e with
      | some (.int .u8) => match g.newL e false (mapV ((s.data.map fun b => Value.int .u8 b.toNat).toList)) with
        | some (k, g) => some (.val (.sl k 0 s.size none 1) g)
        | none => none
      | _ => none
    | _, _ => plainR P (convert src dst (.string s)) g
  | .v x => plainR P (convert src dst x) g
  | .sl k off len cap sz => match P.underlying src, P.underlying dst with
    | some (.slice e), some .string => match P.underlying e with
      | some (.int .u8) => match cellsOf 1 (.sl k off len cap sz) len g with
        | some (cs, g) => match bytesAV cs with
          | some bs => some (.val (.v (.string (strOfNums bs))) g)
          | none => none
        | none => none
      | _ => none
    | _, _ => none
  | .ptr k off => match P.underlying src, P.underlying dst with
    | some (.pointer t), some .unsafePointer => match szOf P t, g.read k with
      | some (_ + 1), some (.cells _ _ n _ _, g) => match Nat.blt off n with
        | true => some (.val (.ptr k off) g)
        | false => none
      | _, _ => none
    | some .unsafePointer, some (.pointer u) => match szOf P u, g.read k with
      | some _, some (.cells ty true n _ _, g) => match liesAt P P.depth ty (n / P.cellsOf ty) off u 1 with
        | true => some (.val (.ptr k off) g)
        | false => none
      | _, _ => none
    | _, _ => none
  | _ => none
/-- unsafe.String: the bytes; the block is not written any more. -/
def evUnsafeString (pt : TypeId) (k off : Nat) (n : Nat) (g : G) : Option OpR := match off, P.underlying pt, g.read k with
  | 0, some (.pointer e), some (l, g) => match Nat.beq l.ty e, Nat.beq (P.cellsOf e) 1, Nat.blt 0 n, Nat.ble n 1048576, rowSlice l 0 n with
    | true, true, true, true, some cs => match bytesAV cs with
      | some bs => match bs.all fun b => decide (0 ≤ b) && decide (b < 256) with
        | true => match g.write k none with
          | some g => some (.val (.v (.string (strOfNums bs))) g)
          | none => none
        | false => none
      | none => none
    | _, _, _, _, _ => none
  | _, _, _ => none
def evBuiltin (b : Builtin) (ts : Array TypeId) (type : TypeId) (args : List AV) (g : G) : Option OpR := match b, args with
  | .append, [s, x] => match ts[0]?, ts[1]? with
    | some t, some t2 => match P.underlying t2 with
      | some (.slice _) => evAppend P t s x g
      | some .string => evAppend P t s x g
      | _ => none
    | _, _ => none
  | .copy, [d, s] => match ts[0]? with
    | some t => evCopy P t d s g
    | none => none
  | .len, [.sl _ _ n _ _] => match (ts[0]?).bind P.underlying with
    | some (.slice _) => some (.val (.v (goInt n)) g)
    | _ => none
  | .len, [.es] => match (ts[0]?).bind P.underlying with
    | some (.slice _) => some (.val (.v (goInt 0)) g)
    | _ => none
  | .len, [.ptr _ _] => match (ts[0]?).bind P.underlying with
    | some (.array n _) => some (.val (.v (goInt n)) g)
    | some (.pointer arr) => match P.underlying arr with
      | some (.array n _) => some (.val (.v (goInt n)) g)
      | _ => none
    | _ => none
  | .cap, [.sl _ _ _ (some n) _] => match (ts[0]?).bind P.underlying with
    | some (.slice _) => some (.val (.v (goInt n)) g)
    | _ => none
  | .unsafeSliceData, [.sl k off (_ + 1) _ _] => some (.val (.ptr k off) g)
  | .unsafeSliceData, [.v (.slice none _ _)] => some (.val (.v (.pointer none)) g)
  | .unsafeString, [.v (.pointer none), .v (.int .i64 0)] => match ts.toList with
    | [_, _] => some (.val (.v (.string .empty)) g)
    | _ => none
  | .unsafeString, [.ptr k off, .v (.int .i64 (.ofNat n))] => match ts.toList with
    | [pt, _] => evUnsafeString P pt k off n g
    | _ => none
  | .len, args => match allV args with
    | some vs => plainR P (Builtin.len_ ts type vs.toArray) g
    | none => none
  | .cap, args => match allV args with
    | some vs => plainR P (Builtin.cap_ ts type vs.toArray) g
    | none => none
  | .min, args => match allV args with
    | some vs => plainR P (Builtin.min_ ts type vs.toArray) g
    | none => none
  | .max, args => match allV args with
    | some vs => plainR P (Builtin.max_ ts type vs.toArray) g
    | none => none
  | _, _ => none
/-- The function that hands back what it is given. -/
def isSame (fn : Func) : Bool := (fn.name == "internal/abi.NoEscape") && (Extern.findNext fn).isNone
def evCall_ (f : AV) (args : List AV) (g : G) : Option OpR := match f with
  | .v (.func (.func f) first captured) => match P.funcs[f]? with
    | some fn => match fn.body with
      | some _ => some (.call (.fn f) (mapV first.toList ++ (args ++ mapV captured.toList)) g)
      | none => match allV args with
        | some vs => match ev? P (callFunc f (first ++ vs.toArray ++ captured)) with
          | some (.value v) => forceV v fun v => some (.val (.v v) g)
          | _ => none
        | none => match args, first.isEmpty && captured.isEmpty && isSame fn with
          | [a], true => some (.val a g)
          | _, _ => none
    | none => none
  | .fn (.func f) first captured => match P.funcs[f]? with
    | some fn => match fn.body with
      | some _ => some (.call (.fn f) (first ++ (args ++ captured)) g)
      | none => none
    | none => none
  | .yl k => some (.call (.yl k) args g)
  | _ => none
def opnds' (tm : T AV) : Option Operand → Option AV
  | none => none
  | some x => some (opnd tm x)
def evOp (tm : T AV) (o : Oper) (g : G) : Option OpR := match o.op with
  | .move x => some (.val (opnd tm x) g)
  | .assign x => some (.val (opnd tm x) g)
  | .pick c a b => match opnd tm c with
    | .v (.bool true) => some (.val (opnd tm a) g)
    | .v (.bool false) => some (.val (opnd tm b) g)
    | _ => none
  | .alloc t => match zeroT P t with
    | some l => match g.newL t true l with
      | some (k, g) => some (.val (.ptr k 0) g)
      | none => none
    | none => none
  | .box t x => match g.newL t true (opnd tm x).cells with
    | some (k, g) => some (.val (.ptr k 0) g)
    | none => none
  | .build t parts => match evBuild P t (partsA tm parts.toList) with
    | some v => some (.val v g)
    | none => none
  | .buildSlice t len parts => evBuildSlice P t len (partsA tm parts.toList) g
  | .load t a => evLoad P t (opnd tm a) g
  | .store t a x => evStore P t (opnd tm a) (opnd tm x) g
  | .nilCheck x => match opnd tm x with
    | .ptr k off => some (.val (.ptr k off) g)
    | .fn (.func f) a b => some (.val (.fn (.func f) a b) g)
    | .v (.pointer (some a)) => some (.val (.v (.pointer (some a))) g)
    | .v (.func (.func f) a b) => some (.val (.v (.func (.func f) a b)) g)
    | _ => none
  | .binOp op t x y _ => match opnd tm x, opnd tm y with
    | .v a, .v b => plainR P (eqGuarded op t x y a b) g
    | a, b => match op, ownEq P t a b g with
      | .eql, some (r, g) => some (.val (.v (.bool r)) g)
      | .neq, some (r, g) => some (.val (.v (.bool (!r))) g)
      | _, _ => none
  | .unOp op _ x => match opnd tm x with
    | .v a => plainR P (Op.unary op a) g
    | _ => none
  | .convert src dst x => evConvert P src dst (opnd tm x) g
  | .makeInterface t x => match opnd tm x with
    | .v a => plainR P (Instr.makeInterface t a) g
    | _ => none
  | .makeFunc fn first captured => some (.val (mkFn fn (opnds tm first.toList) (opnds tm captured.toList)) g)
  | .makeSlice t l c => evMakeSlice P t (opnd tm l) (opnd tm c) g
  | .slice t x lo hi mx => evSlice P t (opnd tm x) (opnds' tm lo) (opnds' tm hi) (opnds' tm mx) g
  | .fieldAddr s x f => match evFieldAddr P s (opnd tm x) f with
    | some v => some (.val v g)
    | none => none
  | .field t x f => evField P t (opnd tm x) f g
  | .indexAddr t x i => match evIndexAddr P t (opnd tm x) (opnd tm i) with
    | some v => some (.val v g)
    | none => none
  | .index t x i => match opnd tm x, opnd tm i with
    | .v a, .v b => plainR P (Instr.index t a b) g
    | .agg l, .v (.int _ (.ofNat i)) => match P.underlying t with
      | some (.array len elem) => match Nat.blt i len, szOf P elem with
        | true, some size => match part? P elem l (i * size) with
          | some v => some (.val v g)
          | none => none
        | _, _ => none
      | _ => none
    | _, _ => none
  | .extract x i => match opnd tm x with
    | .v a => plainR P (Instr.extract a i) g
    | .tup l => match getL l i with
      | some v => some (.val v g)
      | none => none
    | _ => none
  | .call c => match c.callee with
    | .builtin b => evBuiltin P b c.argTypes o.type (opnds tm c.args.toList) g
    | .value f => evCall_ P (opnd tm f) (opnds tm c.args.toList) g
    | .invoke _ _ => none
  | _ => none
end

/-! ### Regions, code, calls -/
/-- Strict put. -/
def putT (N : Nat) (tm : T AV) (dst : Option Tmp) (a : AV) : Option (T AV) := match dst with
  | none => some tm
  | some d => match Nat.blt d N with
    | true => forceA a fun a => T.set (some a) fuelT tm d
    | false => none
/-- Is the operation wanted? -/
def wantedA (ops : List Oper) (tm : T AV) (o : Oper) : Option Bool := match o.guard with
  | none => some true
  | some (j, want) => match getL ops j with
    | some p => match p.dst with
      | some d => match tm.get d with
        | some (.v (.bool b)) => match b, want with
          | true, true => some true
          | false, false => some true
          | _, _ => some false
        | some (.v (.tuple _)) => some false
        | _ => none
      | none => none
    | none => none
section
variable (P : Program) (call : Cl → List AV → G → Option (AV × G)) (N : Nat)
/-- One operation of a region: its value, memory behind it. -/
def evOne (ops : List Oper) (tm : T AV) (o : Oper) (g : G) : Option (AV × G) := match wantedA ops tm o with
  | some true => match evOp P tm o g with
    | some (.val a g) => some (a, g)
    | some (.call f args g) => call f args g
    | none => none
  | some false => some (.v undef, g)
  | none => none
/-- A region in the text's order. -/
def evOps (ops : List Oper) : List Oper → T AV → G → Option (T AV × G)
  | [], tm, g => some (tm, g)
  | o :: os, tm, g => match evOne P call ops tm o g with
    | some (a, g) => match putT N tm o.dst a with
      | some tm => evOps ops os tm g
      | none => none
    | none => none
def memN (k : Nat) : List Nat → Bool
  | [] => false
  | x :: xs => match Nat.beq k x with
    | true => true
    | false => memN k xs
def disjN : List Nat → List Nat → Bool
  | [], _ => true
  | x :: xs, l => match memN x l with
    | true => false
    | false => disjN xs l
/-- What an operation waits for, as bits, from those ahead of it. -/
def ancOf (anc : List Nat) : List Edge → Nat → Option Nat
  | [], m => some m
  | e :: es, m => match Region.binds .any e with
    | true => match getL anc e.on with
      | some a => ancOf anc es (Nat.lor m (Nat.lor (2 ^ e.on) a))
      | none => none
    | false => ancOf anc es m
/-- What an operation left in its log; the names that it made. -/
structure Log where
  rd : List Nat
  wr : List Nat
  lo : Nat
  hi : Nat
def outOf (lo hi : Nat) : List Nat → Bool
  | [] => true
  | k :: l => match Nat.ble lo k, Nat.blt k hi with
    | true, true => false
    | _, _ => outOf lo hi l
/-- Each operation ahead (with its log) is waited for, or has nothing to do with this one. -/
def apartB (i : Nat) (a : Nat) (rd wr : List Nat) : List Log → Bool
  | [] => true
  | g :: l => match Nat.testBit a i with
    | true => apartB (i + 1) a rd wr l
    | false => match disjN g.wr rd, disjN wr g.rd, outOf g.lo g.hi rd with
      | true, true, true => apartB (i + 1) a rd wr l
      | _, _, _ => false
def ancAll : List Oper → List Nat → Option (List Nat)
  | [], acc => some acc
  | o :: os, acc => match ancOf acc o.after.toList 0 with
    | some a => ancAll os (acc ++ [a])
    | none => none
/-- The operands that are looked at. -/
def useOf : Op → List Operand
  | .move x => [x]
  | .assign x => [x]
  | .pick c a b => [c, a, b]
  | .alloc _ => []
  | .box _ x => [x]
  | .build _ ps => ps.toList.map (·.2)
  | .buildSlice _ _ ps => ps.toList.map (·.2)
  | .load _ a => [a]
  | .store _ a x => [a, x]
  | .nilCheck x => [x]
  | .binOp _ _ x y _ => [x, y]
  | .unOp _ _ x => [x]
  | .convert _ _ x => [x]
  | .makeInterface _ x => [x]
  | .makeFunc _ a b => a.toList ++ b.toList
  | .makeSlice _ l c => [l, c]
  | .slice _ x lo hi mx => x :: (lo.toList ++ (hi.toList ++ mx.toList))
  | .fieldAddr _ x _ => [x]
  | .field _ x _ => [x]
  | .indexAddr _ x i => [x, i]
  | .index _ x i => [x, i]
  | .extract x _ => [x]
  | .call c => match c.callee with
    | .value f => f :: c.args.toList
    | _ => c.args.toList
  | _ => []
def tmpOf : List Operand → List Nat
  | [] => []
  | .tmp t :: l => t :: tmpOf l
  | _ :: l => tmpOf l
/-- The temporaries that an operation looks at. -/
def usesT (ops : List Oper) (o : Oper) : List Nat := match o.guard with
  | none => tmpOf (useOf o.op)
  | some (j, _) => match getL ops j with
    | some p => match p.dst with
      | some d => d :: tmpOf (useOf o.op)
      | none => tmpOf (useOf o.op)
    | none => tmpOf (useOf o.op)
/-- Whoever writes temporary t is waited for by operation i, or waits for it. -/
def useOK (i a t : Nat) : Nat → List Oper → List Nat → Bool
  | _, [], _ => true
  | j, p :: ps, bs => match bs with
    | [] => false
    | b :: bs => match p.dst with
      | none => useOK i a t (j + 1) ps bs
      | some d => match Nat.beq d t with
        | false => useOK i a t (j + 1) ps bs
        | true => match Nat.beq j i, Nat.testBit a j, Nat.testBit b i with
          | false, false, false => false
          | _, _, _ => useOK i a t (j + 1) ps bs
def usesOK (ops : List Oper) (ancs : List Nat) (i a : Nat) : List Nat → Bool
  | [] => true
  | t :: ts => match useOK i a t 0 ops ancs with
    | true => usesOK ops ancs i a ts
    | false => false
def allUses (ops : List Oper) (ancs : List Nat) : Nat → List Oper → List Nat → Bool
  | _, [], _ => true
  | i, o :: os, l => match l with
    | [] => false
    | a :: l => match usesOK ops ancs i a (usesT ops o) with
      | true => allUses ops ancs (i + 1) os l
      | false => false
def dsts : List Oper → List Nat
  | [] => []
  | o :: os => match o.dst with
    | some d => d :: dsts os
    | none => dsts os
def noDup : List Nat → Bool
  | [] => true
  | x :: xs => match memN x xs with
    | true => false
    | false => noDup xs
/-- What each operation waits for, where the region is well made. -/
def drawOK (ops : List Oper) : Option (List Nat) := match ancAll ops [] with
  | some ancs => match allUses ops ancs 0 ops ancs, noDup (dsts ops) with
    | true, true => some ancs
    | _, _ => none
  | none => none
def below? (thr : Nat) : List Nat → List Nat → List Nat
  | [], acc => acc
  | x :: xs, acc => match Nat.blt x thr with
    | true => below? thr xs (x :: acc)
    | false => below? thr xs acc
/-- A region whose order is drawn: in the text's order, each operation with its own log; whatever may be carried out in another order has nothing to do with it. -/
def evDraw (ops : List Oper) : List Oper → List Nat → List Log → T AV → G → Option (T AV × G)
  | [], _, _, tm, g => some (tm, g)
  | o :: os, ancs, logs, tm, g => match ancs with
    | [] => none
    | a :: ancs => match evOne P call ops tm o ⟨g.H, g.n, g.n, [], []⟩ with
      | none => none
      | some (v, g1) => match apartB 0 a g1.rd g1.wr logs with
        | false => none
        | true => match putT N tm o.dst v with
          | none => none
          | some tm => evDraw ops os ancs (logs ++ [⟨g1.rd, g1.wr, g.n, g1.n⟩]) tm ⟨g1.H, g1.n, g.thr, below? g.thr g1.rd g.rd, below? g.thr g1.wr g.wr⟩
inductive Ex where
  | normal
  | exit (id : Nat)
  | ret
/-- A range over a function: the marks that it leaves, the jump that is pending. -/
def jumpOf : Nat → Ex
  | 0 => .normal
  | 1 => .ret
  | n + 2 => .exit n
def jumpTo : Ex → Nat
  | .normal => 0
  | .ret => 1
  | .exit n => n + 2
def evRange (nt : Nat) (f : AV) (tm : T AV) (ps : List Nat) (assign body : Code) (g : G) : Option (Nat × Nat × G) :=
  match g.new (.odd (.df true)) with
  | none => none
  | some (kd, g) => match g.new (.odd (.lp 0 0 nt tm ps assign body)) with
    | none => none
    | some (kl, g) => match evCall_ P f [.yl kl] g with
      | some (.call (.fn f) args g) => match call (.fn f) args g with
        | some (_, g) => some (kd, kl, g)
        | none => none
      | _ => none
/-- Behind the function: the pending jump. -/
def evEnd (kl : Nat) (g : G) : Option (Nat × G) := match g.readX kl with
  | some (.lp st jump nt tm ps assign body, g) => match Nat.beq st 1 with
    | true => none
    | false => match g.write kl (some (.odd .ded)) with
      | some g => some (jump, g)
      | none => none
  | _ => none
/-- Code: how it is left, the temporaries, the marks of deferred calls, memory. 'ro': in a loop's round. -/
def evCode (lf : Nat) (ro : Bool) : Code → T AV → List Nat → G → Option (Ex × T AV × List Nat × G)
  | .skip, tm, mk, g => some (.normal, tm, mk, g)
  | .label _, tm, mk, g => some (.normal, tm, mk, g)
  | .region _ ops draw, tm, mk, g => match draw with
    | false => match evOps P call N ops.toList ops.toList tm g with
      | some (tm, g) => some (.normal, tm, mk, g)
      | none => none
    | true => match drawOK ops.toList with
      | some ancs => match evDraw P call N ops.toList ops.toList ancs [] tm g with
        | some (tm, g) => some (.normal, tm, mk, g)
        | none => none
      | none => none
  | .seq a b, tm, mk, g => match evCode lf ro a tm mk g with
    | some (.normal, tm, mk, g) => evCode lf ro b tm mk g
    | r => r
  | .cond c a b, tm, mk, g => match opnd tm c with
    | .v (.bool true) => evCode lf ro a tm mk g
    | .v (.bool false) => evCode lf ro b tm mk g
    | _ => none
  | .block id c, tm, mk, g => match evCode lf ro c tm mk g with
    | some (.exit id', tm, mk, g) => match Nat.beq id' id with
      | true => some (.normal, tm, mk, g)
      | false => some (.exit id', tm, mk, g)
    | r => r
  | .loop c, tm, mk, g => evLoop (evCode lf ro c) lf tm mk g
  | .exit id, tm, mk, g => some (.exit id, tm, mk, g)
  | .scope c, tm, mk, g => evCode lf ro c tm mk g
  | .ret, tm, mk, g => some (.ret, tm, mk, g)
  | .rangeFunc f ps assign body, tm, mk, g => match ro with
    | true => none
    | false => match evRange P call N (opnd tm f) tm ps.toList assign body g with
      | some (kd, kl, g) => match evEnd kl g with
        | some (jump, g) => some (jumpOf jump, tm, kd :: mk, g)
        | none => none
      | none => none
  | _, _, _, _ => none
where evLoop (body : T AV → List Nat → G → Option (Ex × T AV × List Nat × G)) : Nat → T AV → List Nat → G → Option (Ex × T AV × List Nat × G)
  | 0, _, _, _ => none
  | n + 1, tm, mk, g => match body tm mk g with
    | some (.normal, tm, mk, g) => evLoop body n tm mk g
    | r => r
end
def argsT : Nat → T AV → List AV → Option (T AV)
  | _, tm, [] => some tm
  | i, tm, a :: l => match T.set (some a) fuelT tm i with
    | some tm => argsT (i + 1) tm l
    | none => none
section
variable (P : Program)
def resA (tm : T AV) (g : G) : List ResultVar → Option (List AV × G)
  | [] => some ([], g)
  | .tmp t :: l => match resA tm g l with
    | some (xs, g) => some (opnd tm (.tmp t) :: xs, g)
    | none => none
  | .cell t ty :: l => match evLoad P ty (opnd tm (.tmp t)) g with
    | some (.val a g) => match resA tm g l with
      | some (xs, g) => some (a :: xs, g)
      | none => none
    | _ => none
def resOne : List AV → AV
  | [a] => a
  | l => mkTup l
/-- The marks among the deferred calls: no call is left in any. -/
def evMarks : List Nat → G → Option G
  | [], g => some g
  | k :: ks, g => match g.readX k with
    | some (.df true, g) => match g.write k (some (.odd .ded)) with
      | some g => evMarks ks g
      | none => none
    | _ => none
def putsT (nt : Nat) : T AV → List Nat → List AV → Option (T AV)
  | tm, [], [] => some tm
  | tm, p :: ps, a :: l => match putT nt tm (some p) a with
    | some tm => putsT nt tm ps l
    | none => none
  | _, _, _ => none
/-- A round of a loop. -/
def evRound (call : Cl → List AV → G → Option (AV × G)) (lf k : Nat) (args : List AV) (g : G) : Option (AV × G) := match g.readX k with
  | some (.lp st _ nt tm ps assign body, g) => match st, putsT nt tm ps args with
    | 0, some tm => match evCode P call nt lf true assign tm [] g with
      | some (.normal, tm, _, g) => match g.readX k with
        | some (.lp st jump nt' tm' ps' assign' body', g) => match st, g.write k (some (.odd (.lp 1 jump nt' tm' ps' assign' body'))) with
          | 0, some g => match evCode P call nt lf true body tm [] g with
            | some (e, _, _, g) => match g.readX k with
              | some (.lp _ _ nt tm ps assign body, g) => match jumpTo e with
                | 0 => match g.write k (some (.odd (.lp 0 0 nt tm ps assign body))) with
                  | some g => some (.v (.bool true), g)
                  | none => none
                | j + 1 => match g.write k (some (.odd (.lp 2 (j + 1) nt tm ps assign body))) with
                  | some g => some (.v (.bool false), g)
                  | none => none
              | _ => none
            | none => none
          | _, _ => none
        | _ => none
      | _ => none
    | _, _ => none
  | _ => none
def evFn (lf : Nat) : Nat → Cl → List AV → G → Option (AV × G)
  | 0, _, _, _ => none
  | d + 1, .yl k, args, g => evRound P (evFn lf d) lf k args g
  | d + 1, .fn f, args, g => match P.funcs[f]? with
    | none => none
    | some fn => match fn.body with
      | none => none
      | some body => match Nat.ble args.length fn.ntmps, argsT 0 .nil args with
        | true, some tm => match evCode P (evFn lf d) fn.ntmps lf false body tm [] g with
          | some (.normal, tm, mk, g) | some (.ret, tm, mk, g) => match evMarks mk g with
            | some g => match resA P tm g fn.results.toList with
              | some (xs, g) => some (resOne xs, g)
              | none => none
            | none => none
          | _ => none
        | _, _ => none
def g0 : G := ⟨.nil, 0, 0, [], []⟩
/-- A closed call returns true. -/
def isTrue (lf d : Nat) (f : FuncId) : Bool := match evFn P lf d (.fn f) [] g0 with
  | some (.v (.bool true), _) => true
  | _ => false
end
end
end Go.Proofs.Ytoifejinppjeeaa.Eng
namespace Go.Proofs.Ytoifejinppjeeaa.Eng
open Go
set_option linter.unusedVariables false
set_option linter.unusedSimpArgs false

/-! ### Trees -/
section
variable {α : Type}
theorem beq_ff {a b : Nat} (h : ¬ a = b) : Nat.beq a b = false := by
  cases e : Nat.beq a b with
  | false => rfl
  | true => exact absurd (Nat.eq_of_beq_eq_true e) h
theorem beq_tt {a b : Nat} (h : Nat.beq a b = true) : a = b := Nat.eq_of_beq_eq_true h
theorem T.get_nil (k : Nat) : (T.nil : T α).get k = none := rfl
theorem T.get_node (l : T α) (v : Option α) (r : T α) (k : Nat) : (T.node l v r).get k = if k = 0 then v else if k % 2 = 1 then l.get (k / 2) else r.get (k / 2 - 1) := by
  show Bool.rec (motive := fun _ => Option α) (Bool.rec (motive := fun _ => Option α) (r.get (Nat.sub (Nat.div k 2) 1)) (l.get (Nat.div k 2)) (Nat.beq (Nat.mod k 2) 1)) v (Nat.beq k 0) = _
  by_cases h0 : k = 0
  · subst h0; rfl
  · rw [if_neg h0, beq_ff h0]
    by_cases h1 : k % 2 = 1
    · rw [if_pos h1, show Nat.beq (Nat.mod k 2) 1 = true by rw [show Nat.mod k 2 = 1 from h1]; rfl]; rfl
    · rw [if_neg h1, show Nat.beq (Nat.mod k 2) 1 = false from beq_ff h1]; rfl
theorem T.one_get (v : Option α) : ∀ (f k : Nat) (t' : T α), T.one v f k = some t' → ∀ j, t'.get j = if j = k then v else none
  | 0, k, t', h => by cases h
  | f + 1, k, t', h => by
    change Bool.rec (motive := fun _ => Option (T α))
      (Bool.rec (motive := fun _ => Option (T α))
        (Option.rec (motive := fun _ => Option (T α)) none (fun r => some (.node .nil none r)) (T.one v f (k / 2 - 1)))
        (Option.rec (motive := fun _ => Option (T α)) none (fun l => some (.node l none .nil)) (T.one v f (k / 2))) (Nat.beq (k % 2) 1))
      (some (.node .nil v .nil)) (Nat.beq k 0) = _ at h
    intro j
    by_cases h0 : k = 0
    · subst h0
      cases h
      rw [T.get_node]
      by_cases hj : j = 0
      · simp [hj]
      · simp [hj, T.get_nil]
    · rw [beq_ff h0] at h
      by_cases h1 : k % 2 = 1
      · rw [show Nat.beq (k % 2) 1 = true by rw [h1]; rfl] at h
        cases hl : T.one v f (k / 2) with
        | none => rw [hl] at h; cases h
        | some l =>
          rw [hl] at h
          cases h
          rw [T.get_node]
          have ih := T.one_get v f _ _ hl
          by_cases hj : j = 0
          · rw [if_pos hj, if_neg (by omega)]
          · rw [if_neg hj]
            by_cases hj1 : j % 2 = 1
            · rw [if_pos hj1, ih]
              by_cases e : j = k
              · subst e; simp
              · rw [if_neg e, if_neg (by omega)]
            · rw [if_neg hj1, if_neg (by omega), T.get_nil]
      · rw [beq_ff h1] at h
        cases hl : T.one v f (k / 2 - 1) with
        | none => rw [hl] at h; cases h
        | some l =>
          rw [hl] at h
          cases h
          rw [T.get_node]
          have ih := T.one_get v f _ _ hl
          by_cases hj : j = 0
          · rw [if_pos hj, if_neg (by omega)]
          · rw [if_neg hj]
            by_cases hj1 : j % 2 = 1
            · rw [if_pos hj1, if_neg (by omega), T.get_nil]
            · rw [if_neg hj1, ih]
              by_cases e : j = k
              · subst e; simp
              · rw [if_neg e, if_neg (by omega)]
theorem T.set_get (v : Option α) (f : Nat) : ∀ (t t' : T α) (k : Nat), T.set v f t k = some t' → ∀ j, t'.get j = if j = k then v else t.get j
  | .nil, t', k, h => fun j => T.one_get v f k t' h j
  | .node l x r, t', k, h => by
    change Bool.rec (motive := fun _ => Option (T α))
      (Bool.rec (motive := fun _ => Option (T α))
        (Option.rec (motive := fun _ => Option (T α)) none (fun r => some (.node l x r)) (T.set v f r (k / 2 - 1)))
        (Option.rec (motive := fun _ => Option (T α)) none (fun l => some (.node l x r)) (T.set v f l (k / 2))) (Nat.beq (k % 2) 1))
      (some (.node l v r)) (Nat.beq k 0) = _ at h
    intro j
    by_cases h0 : k = 0
    · subst h0
      cases h
      rw [T.get_node, T.get_node]
      by_cases hj : j = 0
      · simp [hj]
      · simp [hj]
    · rw [beq_ff h0] at h
      by_cases h1 : k % 2 = 1
      · rw [show Nat.beq (k % 2) 1 = true by rw [h1]; rfl] at h
        cases hl : T.set v f l (k / 2) with
        | none => rw [hl] at h; cases h
        | some l' =>
          rw [hl] at h
          cases h
          rw [T.get_node, T.get_node]
          have ih := T.set_get v f _ _ _ hl
          by_cases hj : j = 0
          · rw [if_pos hj, if_neg (by omega), if_pos hj]
          · rw [if_neg hj, if_neg hj]
            by_cases hj1 : j % 2 = 1
            · rw [if_pos hj1, if_pos hj1, ih]
              by_cases e : j = k
              · subst e; simp
              · rw [if_neg e, if_neg (by omega)]
            · rw [if_neg hj1, if_neg hj1, if_neg (by omega)]
      · rw [beq_ff h1] at h
        cases hl : T.set v f r (k / 2 - 1) with
        | none => rw [hl] at h; cases h
        | some l' =>
          rw [hl] at h
          cases h
          rw [T.get_node, T.get_node]
          have ih := T.set_get v f _ _ _ hl
          by_cases hj : j = 0
          · rw [if_pos hj, if_neg (by omega), if_pos hj]
          · rw [if_neg hj, if_neg hj]
            by_cases hj1 : j % 2 = 1
            · rw [if_pos hj1, if_pos hj1, if_neg (by omega)]
            · rw [if_neg hj1, if_neg hj1, ih]
              by_cases e : j = k
              · subst e; simp
              · rw [if_neg e, if_neg (by omega)]
theorem getL_eq (l : List α) : ∀ k, getL l k = l[k]? := by
  induction l with
  | nil => intro k; simp [getL]
  | cons x l ih => intro k; cases k <;> simp [getL, ih]
theorem setL_some (v : α) : ∀ (l : List α) (k : Nat) (l' : List α), setL v l k = some l' → k < l.length ∧ l' = l.set k v := by
  intro l
  induction l with
  | nil => intro k l' h; simp [setL] at h
  | cons x l ih =>
    intro k l' h
    cases k with
    | zero => simp [setL] at h; subst h; simp
    | succ k =>
      simp only [setL] at h
      split at h
      · rename_i ys hy
        cases h
        obtain ⟨h1, h2⟩ := ih _ _ hy
        subst h2
        simp [h1]
      · cases h
theorem takeL_some : ∀ (n : Nat) (l l' : List α), takeL n l = some l' → n ≤ l.length ∧ l' = l.take n := by
  intro n
  induction n with
  | zero => intro l l' h; simp [takeL] at h; subst h; simp
  | succ n ih =>
    intro l l' h
    cases l with
    | nil => simp [takeL] at h
    | cons x l =>
      simp only [takeL] at h
      split at h
      · rename_i ys hy
        cases h
        obtain ⟨h1, h2⟩ := ih _ _ hy
        subst h2
        simp [h1]
      · cases h
theorem dropL_some : ∀ (n : Nat) (l l' : List α), dropL n l = some l' → n ≤ l.length ∧ l' = l.drop n := by
  intro n
  induction n with
  | zero => intro l l' h; simp [dropL] at h; subst h; simp
  | succ n ih =>
    intro l l' h
    cases l with
    | nil => simp [dropL] at h
    | cons x l =>
      simp only [dropL] at h
      obtain ⟨h1, h2⟩ := ih _ _ h
      simp [h1, h2]
theorem appL_some : ∀ (l m l' : List α), appL l m = some l' → l' = l ++ m := by
  intro l
  induction l with
  | nil => intro m l' h; simp [appL] at h; simp [h]
  | cons x l ih =>
    intro m l' h
    simp only [appL] at h
    split at h
    · rename_i ys hy
      cases h
      rw [ih _ _ hy]; rfl
    · cases h
theorem repL_some (x : List α) : ∀ (n : Nat) (l : List α), repL x n = some l → l = (List.replicate n x).flatten := by
  intro n
  induction n with
  | zero => intro l h; simp [repL] at h; simp [h]
  | succ n ih =>
    intro l h
    simp only [repL] at h
    split at h
    · rename_i ys hy
      rw [appL_some _ _ _ h, ih _ hy, List.replicate_succ, List.flatten_cons]
    · cases h
theorem setsL_some : ∀ (vs l : List α) (k : Nat) (l' : List α), setsL l k vs = some l' → (vs = [] ∨ k + vs.length ≤ l.length) ∧ l'.length = l.length ∧
    ∀ i, l'[i]? = if k ≤ i ∧ i < k + vs.length then vs[i - k]? else l[i]? := by
  intro vs
  induction vs with
  | nil => intro l k l' h; simp [setsL] at h; subst h; refine ⟨.inl rfl, rfl, fun i => ?_⟩; rw [if_neg (by simp)]
  | cons v vs ih =>
    intro l k l' h
    simp only [setsL] at h
    split at h
    · rename_i m hm
      obtain ⟨h1, rfl⟩ := setL_some _ _ _ _ hm
      obtain ⟨h2, h3, h4⟩ := ih _ _ _ h
      rw [List.length_set] at h3
      refine ⟨.inr ?_, h3, fun i => ?_⟩
      · rcases h2 with h2 | h2
        · subst h2; simp; omega
        · rw [List.length_set] at h2; simp; omega
      · rw [h4 i]
        simp only [List.length_cons]
        by_cases hik : i = k
        · subst hik
          rw [if_neg (by omega), if_pos (by omega)]
          simp [h1]
        · by_cases hi : k + 1 ≤ i ∧ i < k + 1 + vs.length
          · rw [if_pos hi, if_pos (by omega), show i - k = (i - (k + 1)) + 1 by omega]
            simp
          · rw [if_neg hi, if_neg (by omega), List.getElem?_set_ne (by omega)]
    · cases h
theorem slice?_some {l l' : List AV} {o n : Nat} (h : slice? l o n = some l') : l'.length = n ∧ o + n ≤ l.length ∧ ∀ i, i < n → l'[i]? = l[o + i]? := by
  unfold slice? at h
  split at h
  · rename_i m hm
    obtain ⟨h1, rfl⟩ := dropL_some _ _ _ hm
    obtain ⟨h2, rfl⟩ := takeL_some _ _ _ h
    rw [List.length_drop] at h2
    refine ⟨by simp; omega, by omega, fun i hi => ?_⟩
    rw [List.getElem?_take_of_lt hi, List.getElem?_drop]
  · cases h
end

/-! ### Values by names -/
inductive Loc where
  | un
  | dead
  | at_ (b m : Nat)
abbrev Io := Nat → Loc
/-- A name's block, or none any more. -/
def Loc.is (l : Loc) (b : Nat) : Prop := l = .dead ∨ ∃ m, l = .at_ b m
mutual
def VR (ι : Io) : AV → Value → Prop
  | .v x, y => y = x
  | .ptr k off, y => ∃ b, y = .pointer (some ⟨b, off, none⟩) ∧ (ι k).is b
  | .sl k off len cap sz, y => ∃ b c, y = .slice (some ⟨b, off, none⟩) len c ∧ len ≤ c ∧ (∀ c', cap = some c' → c = c') ∧ (ι k = .dead ∨ ∃ m, ι k = .at_ b m ∧ (cap = none → off + c * sz ≤ m))
  | .agg l, y => ∃ vs, y = .agg vs ∧ VRL ι l vs.toList
  | .tup l, y => ∃ vs, y = .tuple vs ∧ VRL ι l vs.toList
  | .fn f a b, y => ∃ vs us, y = .func f vs us ∧ VRL ι a vs.toList ∧ VRL ι b us.toList
  | .es, y => ∃ b c, y = .slice (some b) 0 c
  | .yl k, y => ∃ b, y = .func (.yield b) #[] #[] ∧ (ι k).is b
  | .lp _ _ _ _ _ _ _, _ => False
  | .df _, _ => False
  | .ded, _ => False
def VRL (ι : Io) : List AV → List Value → Prop
  | [], vs => vs = []
  | a :: l, vs => ∃ v us, vs = v :: us ∧ VR ι a v ∧ VRL ι l us
end
/-- Names may come to be, and be lost; else they stand. -/
def Le (ι ι' : Io) : Prop := ∀ k, ι k = .un ∨ ι' k = ι k ∨ ι' k = .dead
theorem Le.refl (ι : Io) : Le ι ι := fun _ => .inr (.inl rfl)
theorem Le.is {ι ι' : Io} (h : Le ι ι') {k b : Nat} (hk : (ι k).is b) : (ι' k).is b := by
  rcases h k with h | h | h
  · rcases hk with hk | ⟨m, hk⟩ <;> rw [h] at hk <;> cases hk
  · rw [h]; exact hk
  · exact .inl h
theorem Le.trans {a b c : Io} (h : Le a b) (k : Le b c) (hun : ∀ i, a i ≠ .un → b i ≠ .un) : Le a c := fun i => by
  rcases h i with h1 | h1 | h1
  · exact .inl h1
  · rcases k i with k1 | k1 | k1
    · by_cases e : a i = .un
      · exact .inl e
      · exact absurd k1 (hun i e)
    · exact .inr (.inl (k1.trans h1))
    · exact .inr (.inr k1)
  · rcases k i with k1 | k1 | k1
    · rw [h1] at k1; cases k1
    · exact .inr (.inr (k1.trans h1))
    · exact .inr (.inr k1)
theorem Le.un {a b : Io} (h : Le a b) {i : Nat} (hi : a i ≠ .un) : b i ≠ .un := by
  rcases h i with h | h | h
  · exact absurd h hi
  · rw [h]; exact hi
  · rw [h]; intro e; cases e
theorem Le.tr {a b c : Io} (h : Le a b) (k : Le b c) : Le a c := h.trans k fun _ hi => h.un hi
mutual
theorem VR.mono {ι ι' : Io} (h : Le ι ι') : ∀ (a : AV) (v : Value), VR ι a v → VR ι' a v
  | .v x, v, hv => by rw [VR] at *; exact hv
  | .ptr k off, v, hv => by
    rw [VR] at *
    obtain ⟨b, e, hk⟩ := hv
    exact ⟨b, e, h.is hk⟩
  | .sl k off len cap sz, v, hv => by
    rw [VR] at *
    obtain ⟨b, c, e, h1, h2, h3⟩ := hv
    refine ⟨b, c, e, h1, h2, ?_⟩
    rcases h3 with h3 | ⟨m, h3, h4⟩
    · rcases h k with h | h | h
      · rw [h] at h3; cases h3
      · exact .inl (h.trans h3)
      · exact .inl h
    · rcases h k with h | h | h
      · rw [h] at h3; cases h3
      · exact .inr ⟨m, h.trans h3, h4⟩
      · exact .inl h
  | .agg l, v, hv => by
    rw [VR] at *
    obtain ⟨vs, e, hl⟩ := hv
    exact ⟨vs, e, VRL.mono h l _ hl⟩
  | .tup l, v, hv => by
    rw [VR] at *
    obtain ⟨vs, e, hl⟩ := hv
    exact ⟨vs, e, VRL.mono h l _ hl⟩
  | .fn f x y, v, hv => by
    rw [VR] at *
    obtain ⟨vs, us, e, h1, h2⟩ := hv
    exact ⟨vs, us, e, VRL.mono h x _ h1, VRL.mono h y _ h2⟩
  | .es, v, hv => by rw [VR] at *; exact hv
  | .yl k, v, hv => by
    rw [VR] at *
    obtain ⟨b, e, hk⟩ := hv
    exact ⟨b, e, h.is hk⟩
  | .lp _ _ _ _ _ _ _, v, hv => by rw [VR] at hv; exact hv.elim
  | .df _, v, hv => by rw [VR] at hv; exact hv.elim
  | .ded, v, hv => by rw [VR] at hv; exact hv.elim
theorem VRL.mono {ι ι' : Io} (h : Le ι ι') : ∀ (l : List AV) (vs : List Value), VRL ι l vs → VRL ι' l vs
  | [], vs, hv => by rw [VRL] at *; exact hv
  | a :: l, vs, hv => by
    rw [VRL] at *
    obtain ⟨v, us, e, h1, h2⟩ := hv
    exact ⟨v, us, e, VR.mono h a _ h1, VRL.mono h l _ h2⟩
end
theorem VRL_iff {ι : Io} : ∀ {l : List AV} {vs : List Value}, VRL ι l vs ↔ vs.length = l.length ∧ ∀ (i : Nat) (a : AV), l[i]? = some a → ∃ v, vs[i]? = some v ∧ VR ι a v
  | [], vs => by
    rw [VRL]
    constructor
    · rintro rfl; simp
    · rintro ⟨h, _⟩; exact List.eq_nil_of_length_eq_zero h
  | a :: l, vs => by
    rw [VRL]
    constructor
    · rintro ⟨v, us, rfl, h1, h2⟩
      obtain ⟨h3, h4⟩ := VRL_iff.1 h2
      refine ⟨by simp [h3], fun i b hb => ?_⟩
      cases i with
      | zero => simp at hb; subst hb; exact ⟨v, rfl, h1⟩
      | succ i => simp at hb; simpa using h4 i b hb
    · rintro ⟨h1, h2⟩
      cases vs with
      | nil => simp at h1
      | cons v us =>
        obtain ⟨u, hu, hr⟩ := h2 0 a rfl
        simp at hu; subst hu
        exact ⟨_, us, rfl, hr, VRL_iff.2 ⟨by simpa using h1, fun i b hb => by simpa using h2 (i + 1) b (by simpa using hb)⟩⟩
theorem VRL_mapV {ι : Io} : ∀ (vs : List Value), VRL ι (mapV vs) vs
  | [] => by rw [mapV, VRL]
  | v :: vs => by
    rw [mapV, VRL]
    exact ⟨v, vs, rfl, by rw [VR], VRL_mapV vs⟩
theorem mapV_eq (vs : List Value) : mapV vs = vs.map .v := by
  induction vs with
  | nil => rfl
  | cons v vs ih => simp [mapV, ih]
theorem VRL_app {ι : Io} : ∀ {l m : List AV} {vs us : List Value}, VRL ι l vs → VRL ι m us → VRL ι (l ++ m) (vs ++ us)
  | [], m, vs, us, h, k => by rw [VRL] at h; subst h; exact k
  | a :: l, m, vs, us, h, k => by
    rw [VRL] at h
    obtain ⟨v, ws, rfl, h1, h2⟩ := h
    rw [List.cons_append, List.cons_append, VRL]
    exact ⟨v, _, rfl, h1, VRL_app h2 k⟩
theorem allV_VRL {ι : Io} : ∀ {l : List AV} {vs us : List Value}, allV l = some vs → VRL ι l us → us = vs
  | [], vs, us, h, k => by rw [VRL] at k; simp [allV] at h; rw [k, h]
  | a :: l, vs, us, h, k => by
    rw [VRL] at k
    obtain ⟨v, ws, rfl, h1, h2⟩ := k
    cases a with
    | v y =>
      simp only [allV] at h
      split at h
      · rename_i ys hy
        cases h
        rw [VR] at h1
        rw [h1, allV_VRL hy h2]
      · cases h
    | _ => simp [allV] at h
theorem VR_mkAgg {ι : Io} {l : List AV} {vs : List Value} (h : VRL ι l vs) : VR ι (mkAgg l) (.agg vs.toArray) := by
  unfold mkAgg
  split
  · rename_i us hu
    rw [VR, allV_VRL hu h]
  · rw [VR]; exact ⟨_, rfl, by simpa using h⟩
theorem VR_mkTup {ι : Io} {l : List AV} {vs : List Value} (h : VRL ι l vs) : VR ι (mkTup l) (.tuple vs.toArray) := by
  unfold mkTup
  split
  · rename_i us hu
    rw [VR, allV_VRL hu h]
  · rw [VR]; exact ⟨_, rfl, by simpa using h⟩
theorem VR_mkFn {ι : Io} {f : Fn} {l m : List AV} {vs us : List Value} (h : VRL ι l vs) (k : VRL ι m us) : VR ι (mkFn f l m) (.func f vs.toArray us.toArray) := by
  unfold mkFn
  split
  · rename_i xs ys hx hy
    rw [VR, allV_VRL hx h, allV_VRL hy k]
  · rw [VR]; exact ⟨_, _, rfl, by simpa using h, by simpa using k⟩
theorem VR_cells {ι : Io} {a : AV} {v : Value} (h : VR ι a v) : VRL ι a.cells v.cells.toList := by
  cases a with
  | v x => rw [VR] at h; subst h; exact VRL_mapV _
  | agg l => rw [VR] at h; obtain ⟨vs, rfl, hl⟩ := h; exact hl
  | ptr k off =>
    have h' := h
    rw [VR] at h; obtain ⟨b, rfl, _⟩ := h
    show VRL ι [_] _
    rw [VRL]; exact ⟨_, [], rfl, h', by rw [VRL]⟩
  | sl k off len cap sz =>
    have h' := h
    rw [VR] at h; obtain ⟨b, c, rfl, _⟩ := h
    show VRL ι [_] _
    rw [VRL]; exact ⟨_, [], rfl, h', by rw [VRL]⟩
  | tup l =>
    have h' := h
    rw [VR] at h; obtain ⟨vs, rfl, hl⟩ := h
    show VRL ι [_] _
    rw [VRL]; exact ⟨_, [], rfl, h', by rw [VRL]⟩
  | fn f x y =>
    have h' := h
    rw [VR] at h; obtain ⟨vs, us, rfl, _⟩ := h
    show VRL ι [_] _
    rw [VRL]; exact ⟨_, [], rfl, h', by rw [VRL]⟩
  | es =>
    have h' := h
    rw [VR] at h; obtain ⟨b, c, rfl⟩ := h
    show VRL ι [_] _
    rw [VRL]; exact ⟨_, [], rfl, h', by rw [VRL]⟩
  | yl k =>
    have h' := h
    rw [VR] at h; obtain ⟨b, rfl, _⟩ := h
    show VRL ι [_] _
    rw [VRL]; exact ⟨_, [], rfl, h', by rw [VRL]⟩
  | lp => rw [VR] at h; exact h.elim
  | df => rw [VR] at h; exact h.elim
  | ded => rw [VR] at h; exact h.elim
theorem oneCell_VR {ι : Io} {a : AV} {v : Value} (h : VR ι a v) (ho : oneCell a = true) : v.oneCell' = true := by
  cases a with
  | v x => rw [VR] at h; subst h; cases v <;> first | rfl | simp [oneCell] at ho
  | agg l => simp [oneCell] at ho
  | tup l => simp [oneCell] at ho
  | ptr k off => rw [VR] at h; obtain ⟨b, rfl, _⟩ := h; rfl
  | sl k off len cap sz => rw [VR] at h; obtain ⟨b, c, rfl, _⟩ := h; rfl
  | fn f x y => rw [VR] at h; obtain ⟨vs, us, rfl, _⟩ := h; rfl
  | yl k => rw [VR] at h; obtain ⟨b, rfl, _⟩ := h; rfl
  | es => rw [VR] at h; obtain ⟨b, c, rfl⟩ := h; rfl
  | lp => rw [VR] at h; exact h.elim
  | df => rw [VR] at h; exact h.elim
  | ded => rw [VR] at h; exact h.elim
theorem allOne_VRL {ι : Io} : ∀ {l : List AV} {vs : List Value}, allOne l = true → VRL ι l vs → ∀ v ∈ vs, v.oneCell' = true
  | [], vs, _, h => by rw [VRL] at h; subst h; simp
  | a :: l, vs, ho, h => by
    rw [VRL] at h
    obtain ⟨v, us, rfl, h1, h2⟩ := h
    simp only [allOne] at ho
    split at ho
    · rename_i h3
      intro u hu
      rcases List.mem_cons.1 hu with rfl | hu
      · exact oneCell_VR h1 h3
      · exact allOne_VRL ho h2 u hu
    · cases ho
/-- What a program that asks nothing answers, whatever the world. -/
theorem ev?_run {α : Type} {P : Program} : ∀ {s : Sem α} {a : α}, ev? P s = some a → ∀ w, s.run P w = .ok a w
  | .pure x, a, h, w => by simp [ev?] at h; subst h; rfl
  | .program k, a, h, w => by rw [ev?] at h; rw [Sem.run]; exact ev?_run h w
  | .mark m k, a, h, w => by rw [ev?] at h; rw [Sem.run]; exact ev?_run h w
  | .load .., a, h, w => by simp [ev?] at h
  | .store .., a, h, w => by simp [ev?] at h
  | .new .., a, h, w => by simp [ev?] at h
  | .shape .., a, h, w => by simp [ev?] at h
  | .freeze .., a, h, w => by simp [ev?] at h
  | .frozen .., a, h, w => by simp [ev?] at h
  | .getObj .., a, h, w => by simp [ev?] at h
  | .setObj .., a, h, w => by simp [ev?] at h
  | .choose .., a, h, w => by simp [ev?] at h
  | .sys .., a, h, w => by simp [ev?] at h
  | .halt .., a, h, w => by simp [ev?] at h
theorem forceNat_eq {β : Type} (n : Nat) (k : Nat → β) : forceNat n k = k n := by cases n <;> rfl
theorem forceA_eq {β : Type} (a : AV) (k : AV → β) : forceA a k = k a := by
  cases a <;> first | rfl | skip
  rename_i x
  cases x <;> rfl
theorem putT_eq (N : Nat) (tm : T AV) (dst : Option Tmp) (a : AV) : putT N tm dst a = match dst with
  | none => some tm
  | some d => match Nat.blt d N with
    | true => T.set (some a) fuelT tm d
    | false => none := by
  unfold putT
  cases dst with
  | none => rfl
  | some d =>
    dsimp only
    cases Nat.blt d N
    · rfl
    · exact forceA_eq _ _
theorem forceInt_eq {β : Type} (n : Int) (k : Int → β) : forceInt n k = k n := by cases n <;> simp [forceInt, forceNat_eq]
theorem forceV_eq {β : Type} (v : Value) (k : Value → β) : forceV v k = k v := by
  cases v <;> simp only [forceV, forceInt_eq]
  split <;> rfl

/-! ### Rows -/
theorem takeL_of {α : Type} : ∀ (n : Nat) (l : List α), n ≤ l.length → takeL n l = some (l.take n) := by
  intro n
  induction n with
  | zero => intro l h; simp [takeL]
  | succ n ih =>
    intro l h
    cases l with
    | nil => simp at h
    | cons x l =>
      simp only [takeL]
      rw [ih l (by simpa using h)]
      simp
theorem dropL_of {α : Type} : ∀ (n : Nat) (l : List α), n ≤ l.length → dropL n l = some (l.drop n) := by
  intro n
  induction n with
  | zero => intro l h; simp [dropL]
  | succ n ih =>
    intro l h
    cases l with
    | nil => simp at h
    | cons x l =>
      simp only [dropL]
      rw [ih l (by simpa using h)]
      simp
theorem slice?_of {l l' : List AV} {o n : Nat} (h1 : l'.length = n) (h2 : o + n ≤ l.length) (h3 : ∀ i, i < n → l'[i]? = l[o + i]?) : slice? l o n = some l' := by
  unfold slice?
  rw [dropL_of _ _ (by omega)]
  dsimp only
  rw [takeL_of _ _ (by rw [List.length_drop]; omega)]
  congr 1
  apply List.ext_getElem?
  intro i
  by_cases hi : i < n
  · rw [List.getElem?_take_of_lt hi, List.getElem?_drop, h3 i hi]
  · rw [List.getElem?_eq_none (by rw [List.length_take, List.length_drop]; omega), List.getElem?_eq_none (by omega)]
theorem setL_of {α : Type} (v : α) : ∀ (l : List α) (k : Nat), k < l.length → setL v l k = some (l.set k v) := by
  intro l
  induction l with
  | nil => intro k h; simp at h
  | cons x l ih =>
    intro k h
    cases k with
    | zero => simp [setL]
    | succ k =>
      simp only [setL]
      rw [ih k (by simpa using h)]
      simp
theorem setsL_ex {α : Type} : ∀ (vs l : List α) (k : Nat), k + vs.length ≤ l.length → ∃ l', setsL l k vs = some l' := by
  intro vs
  induction vs with
  | nil => intro l k h; exact ⟨l, rfl⟩
  | cons v vs ih =>
    intro l k h
    simp only [setsL]
    rw [setL_of v l k (by simp at h; omega)]
    exact ih _ _ (by simp at h ⊢; omega)
theorem toL_len (ty : Nat) (ex : Bool) (n : Nat) (pat : List AV) (t : T AV) : (Row.cells ty ex n pat t).toL.length = n := by simp [Row.toL]
theorem toL_get {ty : Nat} {ex : Bool} {n : Nat} {pat : List AV} {t : T AV} {i : Nat} (h : i < n) : (Row.cells ty ex n pat t).toL[i]? = some (cellAt pat t i) := by simp [Row.toL, h]
theorem toL_no {ty : Nat} {ex : Bool} {n : Nat} {pat : List AV} {t : T AV} {i : Nat} (h : n ≤ i) : (Row.cells ty ex n pat t).toL[i]? = none := List.getElem?_eq_none (by rw [toL_len]; exact h)
theorem cellsFrom_len (pat : List AV) (t : T AV) : ∀ (n off : Nat), (cellsFrom pat t off n).length = n
  | 0, _ => rfl
  | n + 1, off => by rw [cellsFrom, forceA_eq, forceNat_eq, List.length_cons, cellsFrom_len pat t n]
theorem cellsFrom_get (pat : List AV) (t : T AV) : ∀ (n off i : Nat), i < n → (cellsFrom pat t off n)[i]? = some (cellAt pat t (off + i))
  | 0, _, _, h => absurd h (by omega)
  | n + 1, off, i, h => by
    rw [cellsFrom, forceA_eq, forceNat_eq]
    cases i with
    | zero => rfl
    | succ i =>
      rw [List.getElem?_cons_succ, cellsFrom_get pat t n (off + 1) i (by omega)]
      congr 2; omega
theorem rowSlice_ok {r : Row} {off n : Nat} {cs : List AV} (h : rowSlice r off n = some cs) : slice? r.toL off n = some cs := by
  unfold rowSlice at h
  split at h
  · split at h
    · rename_i ty ex m pat t hle
      cases h
      have hle' := Nat.le_of_ble_eq_true hle
      refine slice?_of (cellsFrom_len _ _ _ _) (by rw [toL_len]; exact hle') fun i hi => ?_
      rw [cellsFrom_get _ _ _ _ _ hi, toL_get (by omega)]
    · cases h
  · cases h
theorem rowGet_ok {r : Row} {i : Nat} {a : AV} (h : rowGet r i = some a) : getL r.toL i = some a := by
  unfold rowGet at h
  split at h
  · split at h
    · rename_i ty ex m pat t hlt
      cases h
      rw [getL_eq, toL_get (by simpa [Nat.blt_eq] using hlt)]
    · cases h
  · cases h
theorem setsT_get : ∀ (l : List AV) (t t' : T AV) (off : Nat), setsT t off l = some t' → ∀ i, t'.get i = if off ≤ i ∧ i < off + l.length then l[i - off]? else t.get i
  | [], t, t', off, h, i => by simp [setsT] at h; subst h; rw [if_neg (by simp)]
  | a :: l, t, t', off, h, i => by
    rw [setsT, forceA_eq] at h
    split at h
    · rename_i t1 h1
      rw [forceNat_eq] at h
      have ih := setsT_get l t1 t' (off + 1) h i
      rw [ih, List.length_cons]
      by_cases hi : off + 1 ≤ i ∧ i < off + 1 + l.length
      · rw [if_pos hi, if_pos (by omega), show i - off = (i - (off + 1)) + 1 by omega, List.getElem?_cons_succ]
      · rw [if_neg hi, T.set_get _ _ _ _ _ h1]
        by_cases e : i = off
        · subst e
          rw [if_pos rfl, if_pos (by omega)]; simp
        · rw [if_neg e, if_neg (by omega)]
    · cases h
theorem cellAt_some {pat : List AV} {t : T AV} {i : Nat} {a : AV} (h : t.get i = some a) : cellAt pat t i = a := by simp [cellAt, h]
theorem cellAt_same {pat : List AV} {t t' : T AV} {i : Nat} (h : t'.get i = t.get i) : cellAt pat t' i = cellAt pat t i := by simp [cellAt, h]
theorem rowSets_ok {r r' : Row} {off : Nat} {cs : List AV} (h : rowSets r off cs = some r') : (∃ m p t, r' = .cells r.ty r.ex m p t) ∧ setsL r.toL off cs = some r'.toL := by
  unfold rowSets at h
  split at h
  · rename_i ty ex m pat t
    split at h
    · rename_i t' hle hs
      cases h
      have hle' := Nat.le_of_ble_eq_true hle
      refine ⟨⟨_, _, _, rfl⟩, ?_⟩
      obtain ⟨l', hl'⟩ := setsL_ex cs (Row.cells ty ex m pat t).toL off (by rw [toL_len]; exact hle')
      rw [hl']
      congr 1
      obtain ⟨_, h2, h3⟩ := setsL_some _ _ _ _ hl'
      apply List.ext_getElem?
      intro i
      rw [h3 i]
      have hg := setsT_get _ _ _ _ hs i
      by_cases hi : i < m
      · rw [toL_get hi, toL_get hi]
        by_cases hc : off ≤ i ∧ i < off + cs.length
        · rw [if_pos hc] at hg ⊢
          obtain ⟨a, ha⟩ : ∃ a, cs[i - off]? = some a := ⟨_, List.getElem?_eq_getElem (by omega)⟩
          rw [ha] at hg ⊢
          rw [cellAt_some hg]
        · rw [if_neg hc] at hg ⊢
          rw [cellAt_same hg]
      · rw [toL_no (by omega), toL_no (by omega), if_neg (by omega)]
    · cases h
  · cases h
theorem rowApp_ok {b : Bool} {ty : Nat} {ex : Bool} {m : Nat} {pat : List AV} {t : T AV} {r' : Row} {cs : List AV} (h : rowApp b (.cells ty ex m pat t) cs = some r') : (∃ m p t, r' = .cells ty b m p t) ∧ r'.toL = (Row.cells ty ex m pat t).toL ++ cs := by
  unfold rowApp at h
  dsimp only at h
  split at h
  · rename_i t' hs
    rw [forceNat_eq] at h
    cases h
    refine ⟨⟨_, _, _, rfl⟩, ?_⟩
    apply List.ext_getElem?
    intro i
    have hg := setsT_get _ _ _ _ hs i
    by_cases hi : i < m
    · rw [List.getElem?_append_left (by rw [toL_len]; exact hi), toL_get hi, toL_get (by omega)]
      rw [if_neg (by omega)] at hg
      rw [cellAt_same hg]
    · rw [List.getElem?_append_right (by rw [toL_len]; omega), toL_len]
      by_cases hc : i < m + cs.length
      · rw [if_pos (by omega)] at hg
        obtain ⟨a, ha⟩ : ∃ a, cs[i - m]? = some a := ⟨_, List.getElem?_eq_getElem (by omega)⟩
        rw [ha] at hg ⊢
        rw [toL_get hc, cellAt_some hg]
      · rw [toL_no (by omega), List.getElem?_eq_none (by omega)]
  · cases h
theorem rowOf_ok {ty : Nat} {ex : Bool} {l : List AV} {r : Row} (h : rowOf ty ex l = some r) : (∃ m p t, r = .cells ty ex m p t) ∧ r.toL = l := by
  obtain ⟨h1, h2⟩ := rowApp_ok h
  exact ⟨h1, by rw [h2]; simp [Row.toL]⟩
theorem newL_some {g g' : G} {ty : Nat} {ex : Bool} {l : List AV} {k : Nat} (h : g.newL ty ex l = some (k, g')) : ∃ m p t, g.new (.cells ty ex m p t) = some (k, g') ∧ (Row.cells ty ex m p t).toL = l := by
  unfold G.newL at h
  split at h
  · rename_i r hr
    obtain ⟨⟨m, p, t, rfl⟩, h2⟩ := rowOf_ok hr
    exact ⟨m, p, t, h, h2⟩
  · cases h
end Go.Proofs.Ytoifejinppjeeaa.Eng
namespace Go.Proofs.Ytoifejinppjeeaa.Eng
open Go Go.RowKit
set_option linter.unusedVariables false
set_option linter.unusedSimpArgs false

/-- Block b of w (m cells) holds the cells l, and may be written. -/
def BR (ι : Io) (ty : Nat) (ex : Bool) (l : List AV) (w : World) (b m : Nat) : Prop :=
  ∃ (c : Array Value) (T : TypeId) (fr : Nat × Nat), w.heap[b]? = some (.cells c T fr) ∧ c.size = m ∧ (∀ (i : Nat) (a : AV), l[i]? = some a → ∃ v, c[i]? = some v ∧ VR ι a v) ∧ (∀ off, off < c.size → ¬ (fr.1 ≤ off ∧ off < fr.2)) ∧ T = ty ∧ (ex = true → m = l.length)
theorem BR.mono {ty : Nat} {ex : Bool} {ι ι' : Io} {l : List AV} {w w' : World} {b m : Nat} (h : BR ι ty ex l w b m) (hl : Le ι ι') (hw : w'.heap[b]? = w.heap[b]?) : BR ι' ty ex l w' b m := by
  obtain ⟨c, T, fr, h1, h2, h3, h4⟩ := h
  exact ⟨c, T, fr, hw.trans h1, h2, fun i a ha => by obtain ⟨v, hv, hr⟩ := h3 i a ha; exact ⟨v, hv, hr.mono hl⟩, h4⟩
theorem BR.len {ty : Nat} {ex : Bool} {ι : Io} {l : List AV} {w : World} {b m : Nat} (h : BR ι ty ex l w b m) : l.length ≤ m := by
  obtain ⟨c, T, fr, h1, h2, h3, h4⟩ := h
  rcases Nat.eq_zero_or_pos l.length with e | e
  · omega
  · have hi : l.length - 1 < l.length := by omega
    obtain ⟨v, hv, _⟩ := h3 (l.length - 1) _ (List.getElem?_eq_getElem hi)
    have := (Array.getElem?_eq_some_iff.1 hv).1
    omega
theorem BR.cell {ty : Nat} {ex : Bool} {ι : Io} {l : List AV} {w : World} {b m : Nat} (h : BR ι ty ex l w b m) {i : Nat} {a : AV} (ha : l[i]? = some a) : ∃ v, w.cell? ⟨b, i, none⟩ = some v ∧ VR ι a v := by
  obtain ⟨c, T, fr, h1, h2, h3, h4⟩ := h
  obtain ⟨v, hv, hr⟩ := h3 i a ha
  exact ⟨v, by rw [cell_of_row w b i c T fr h1, hv], hr⟩
theorem BR.there {ty : Nat} {ex : Bool} {ι : Io} {l : List AV} {w : World} {b m : Nat} (h : BR ι ty ex l w b m) {o n : Nat} (ho : o + n ≤ m) : w.there b o n := by
  obtain ⟨c, T, fr, h1, h2, h3, h4⟩ := h
  intro j hj
  constructor
  · rw [cell_of_row w b (o + j) c T fr h1, Array.getElem?_eq_getElem (by omega)]; rfl
  · have h5 := h4.1 (o + j) (by omega)
    simp only [World.frozen?, h1]
    simpa using h5
theorem BR.shape {ty : Nat} {ex : Bool} {ι : Io} {l : List AV} {w : World} {b m : Nat} (h : BR ι ty ex l w b m) : w.shape? b = some (ty, m) := by
  obtain ⟨c, T, fr, h1, h2, h3, h4, h5, h6⟩ := h
  subst h5 h2
  simp [World.shape?, h1]
/-- A part of the cells, as values. -/
theorem BR.range {ty : Nat} {ex : Bool} {ι : Io} {l cs : List AV} {w : World} {b m o n : Nat} (h : BR ι ty ex l w b m) (hs : slice? l o n = some cs) : ∃ vs : List Value, VRL ι cs vs ∧ vs.length = n ∧ w.rangeAt b o vs := by
  obtain ⟨h1, h2, h3⟩ := slice?_some hs
  have hlen := h.len
  obtain ⟨c, T, fr, hc, hm, hr, _⟩ := h
  refine ⟨(c.toList.drop o).take n, VRL_iff.2 ⟨?_, fun i a ha => ?_⟩, ?_, fun j v hv => ?_⟩
  · rw [List.length_take, List.length_drop, Array.length_toList, h1]; omega
  · have hi : i < n := by rw [← h1]; exact (List.getElem?_eq_some_iff.1 ha).1
    rw [h3 i hi] at ha
    obtain ⟨v, hv, hvr⟩ := hr _ _ ha
    exact ⟨v, by rw [List.getElem?_take_of_lt hi, List.getElem?_drop, Array.getElem?_toList]; exact hv, hvr⟩
  · rw [List.length_take, List.length_drop, Array.length_toList]; omega
  · rw [cell_of_row w b (o + j) c T fr hc]
    have hj : j < n := by
      have := (List.getElem?_eq_some_iff.1 hv).1
      rw [List.length_take] at this; omega
    rw [List.getElem?_take_of_lt hj, List.getElem?_drop, Array.getElem?_toList] at hv
    exact hv

/-- A loop's state, its pending jump. -/
def stTo : Nat → LoopState
  | 0 => .ready
  | 1 => .busy
  | 2 => .done
  | _ => .exhausted
def jumpC : Nat → Option Code
  | 0 => none
  | 1 => some .ret
  | n + 2 => some (.exit n)
/-- Temporaries, by themselves. -/
def TM (ι : Io) (Nt : Nat) (tm : T AV) (ts : Array Value) : Prop := ts.size = Nt ∧ ∀ t, VR ι (opnd tm (.tmp t)) (ts.getD t undef)
theorem TM.mono {ι ι' : Io} {Nt : Nat} {tm : T AV} {ts : Array Value} (h : TM ι Nt tm ts) (hl : Le ι ι') : TM ι' Nt tm ts := ⟨h.1, fun t => (h.2 t).mono hl⟩
/-- Block b of w holds what is no cells. -/
def BS (ι : Io) (w : World) (b : Nat) : AV → Prop
  | .lp st jump nt tm ps assign body => ∃ r : Loop, w.heap[b]? = some (.loop r) ∧ r.state = stTo st ∧ r.pending = jumpC jump ∧ r.params = ps.toArray ∧ r.assign = assign ∧ r.body = body ∧ TM ι nt tm r.tmps
  | .df o => w.heap[b]? = some (.deferred (if o then some [] else none))
  | .ded => True
  | _ => False
theorem BS.mono {ι ι' : Io} {a : AV} {w w' : World} {b : Nat} (h : BS ι w b a) (hl : Le ι ι') (hw : w'.heap[b]? = w.heap[b]?) : BS ι' w' b a := by
  cases a <;> simp only [BS] at h ⊢ <;> first | exact h.elim | skip
  · obtain ⟨r, h1, h2, h3, h4, h5, h6, h7⟩ := h
    exact ⟨r, hw.trans h1, h2, h3, h4, h5, h6, h7.mono hl⟩
  · exact hw.trans h
/-- Block b of w is what the row r says. -/
def BX (ι : Io) (r : Row) (w : World) (b m : Nat) : Prop := match r with
  | .odd a => BS ι w b a
  | .cells ty ex n p t => BR ι ty ex (Row.cells ty ex n p t).toL w b m
theorem BX.mono {ι ι' : Io} {l : Row} {w w' : World} {b m : Nat} (h : BX ι l w b m) (hl : Le ι ι') (hw : w'.heap[b]? = w.heap[b]?) : BX ι' l w' b m := by
  cases l with
  | odd a => exact BS.mono h hl hw
  | cells ty ex n p t => exact BR.mono h hl hw

/-- What was written since the log began: the log's, and all younger names. -/
def Wr (g : G) (k : Nat) : Prop := k ∈ g.wr ∨ g.thr ≤ k
structure Step (g g' : G) (ι ι' : Io) (w w' : World) : Prop where
  n : g.n ≤ g'.n
  thr : g'.thr = g.thr
  rd : ∀ k ∈ g.rd, k ∈ g'.rd
  wr : ∀ k ∈ g.wr, k ∈ g'.wr
  le : Le ι ι'
  old : ∀ k, k < g.n → ι' k = ι k ∨ (ι' k = .dead ∧ Wr g' k)
  far : ∀ k, g'.n ≤ k → ι' k = ι k
  newb : ∀ k b m, g.n ≤ k → k < g'.n → ι' k = .at_ b m → w.heap.size ≤ b ∨ ∃ k0 m0, Wr g' k0 ∧ k0 < g.n ∧ ι k0 = .at_ b m0
  habs : ∀ k, k < g.n → ¬ Wr g' k → g'.H.get k = g.H.get k
  frame : ∀ b, b < w.heap.size → (∀ k m, k < g.n → Wr g' k → ι k ≠ .at_ b m) → w'.heap[b]? = w.heap[b]?
  size : w.heap.size ≤ w'.heap.size
  os : w'.os = w.os
  tape : w'.tape = w.tape
  output : w'.output = w.output
structure Sat (N : Nat) (F : Nat → Prop) (g : G) (ι : Io) (w0 w : World) : Prop where
  inj : ∀ k k' b m m', ι k = .at_ b m → ι k' = .at_ b m' → k = k'
  bnd : ∀ k b m, ι k = .at_ b m → w0.heap.size ≤ b ∧ b < w.heap.size
  un : ∀ k, g.n ≤ k → k < N → ι k = .un
  dom : ∀ k l, g.H.get k = some l → k < g.n
  rel : ∀ k l, F k → g.H.get k = some l → ∃ b m, ι k = .at_ b m ∧ BX ι l w b m
  bel : Below w0.heap.size w0 w
def FOK (F : Nat → Prop) (g : G) : Prop := (∀ k ∈ g.rd, F k) ∧ (∀ k ∈ g.wr, F k) ∧ ∀ k, g.thr ≤ k → F k
theorem Wr.of {g g' : G} {k : Nat} (h : Wr g k) (ht : g'.thr = g.thr) (hw : ∀ k ∈ g.wr, k ∈ g'.wr) : Wr g' k := by
  rcases h with h | h
  · exact .inl (hw k h)
  · exact .inr (by rw [ht]; exact h)
theorem FOK.wr {F : Nat → Prop} {g : G} (h : FOK F g) {k : Nat} (hk : Wr g k) : F k := by
  rcases hk with hk | hk
  · exact h.2.1 k hk
  · exact h.2.2 k hk
theorem FOK.back {F : Nat → Prop} {g g' : G} {ι ι' : Io} {w w' : World} (h : FOK F g') (s : Step g g' ι ι' w w') : FOK F g :=
  ⟨fun k hk => h.1 k (s.rd k hk), fun k hk => h.2.1 k (s.wr k hk), fun k hk => h.2.2 k (by rw [s.thr]; exact hk)⟩
theorem Step.refl (g : G) (ι : Io) (w : World) : Step g g ι ι w w :=
  ⟨Nat.le_refl _, rfl, fun _ h => h, fun _ h => h, Le.refl _, fun _ _ => .inl rfl, fun _ _ => rfl, fun k b m h1 h2 _ => absurd h2 (by omega), fun _ _ _ => rfl, fun _ _ _ => rfl, Nat.le_refl _, rfl, rfl, rfl⟩
theorem Step.trans {g1 g2 g3 : G} {a b c : Io} {w1 w2 w3 : World} (h : Step g1 g2 a b w1 w2) (k : Step g2 g3 b c w2 w3) : Step g1 g3 a c w1 w3 where
  n := Nat.le_trans h.n k.n
  thr := k.thr.trans h.thr
  rd := fun i hi => k.rd i (h.rd i hi)
  wr := fun i hi => k.wr i (h.wr i hi)
  le := h.le.tr k.le
  old := fun i hi => by
    rcases k.old i (Nat.lt_of_lt_of_le hi h.n) with e | ⟨e, hw⟩
    · rcases h.old i hi with e2 | ⟨e2, hw2⟩
      · exact .inl (e.trans e2)
      · exact .inr ⟨e.trans e2, hw2.of k.thr k.wr⟩
    · exact .inr ⟨e, hw⟩
  far := fun i hi => (k.far i hi).trans (h.far i (Nat.le_trans k.n hi))
  newb := fun i d m h1 h2 h3 => by
    by_cases h4 : i < g2.n
    · rcases k.old i h4 with e | ⟨e, _⟩
      · rw [h3] at e
        rcases h.newb i d m h1 h4 e.symm with h5 | ⟨k0, m0, h5, h6, h7⟩
        · exact .inl h5
        · exact .inr ⟨k0, m0, h5.of k.thr k.wr, h6, h7⟩
      · rw [h3] at e; cases e
    · rcases k.newb i d m (by omega) h2 h3 with h5 | ⟨k0, m0, h5, h6, h7⟩
      · exact .inl (Nat.le_trans h.size h5)
      · by_cases h8 : k0 < g1.n
        · rcases h.old k0 h8 with e | ⟨e, _⟩
          · exact .inr ⟨k0, m0, h5, h8, e ▸ h7⟩
          · rw [h7] at e; cases e
        · rcases h.newb k0 d m0 (by omega) h6 h7 with h9 | ⟨k1, m1, h9, h10, h11⟩
          · exact .inl h9
          · exact .inr ⟨k1, m1, h9.of k.thr k.wr, h10, h11⟩
  habs := fun i hi hw => (k.habs i (Nat.lt_of_lt_of_le hi h.n) hw).trans (h.habs i hi fun hw' => hw (hw'.of k.thr k.wr))
  frame := fun d hd hn => by
    have e1 := h.frame d hd fun i m hi hw => hn i m hi (hw.of k.thr k.wr)
    refine (k.frame d (Nat.lt_of_lt_of_le hd h.size) fun i m hi hw e => ?_).trans e1
    by_cases h8 : i < g1.n
    · rcases h.old i h8 with e2 | ⟨e2, _⟩
      · exact hn i m h8 hw (e2 ▸ e)
      · rw [e] at e2; cases e2
    · rcases h.newb i d m (by omega) hi e with h9 | ⟨k1, m1, h9, h10, h11⟩
      · omega
      · exact hn k1 m1 h10 (h9.of k.thr k.wr) h11
  size := Nat.le_trans h.size k.size
  os := k.os.trans h.os
  tape := k.tape.trans h.tape
  output := k.output.trans h.output
theorem below_step {N : Nat} {F : Nat → Prop} {g g' : G} {ι ι' : Io} {w0 w w' : World} (h : Sat N F g ι w0 w) (s : Step g g' ι ι' w w') : Below w0.heap.size w0 w' :=
  ⟨s.os.trans h.bel.os, s.tape.trans h.bel.tape, s.output.trans h.bel.output, Nat.le_trans h.bel.size s.size, fun b hb => by
    refine (s.frame b (Nat.lt_of_lt_of_le hb h.bel.size) fun k m _ _ e => ?_).trans (h.bel.block b hb)
    have := (h.bnd k b m e).1
    omega⟩
/-- What a program of the model leaves. -/
def Fin (P : Program) (N : Nat) (F : Nat → Prop) (w0 : World) (s : Sem Value) (av : AV) (g g' : G) (ι : Io) (w : World) : Prop :=
  ∃ ι' v w', s.run P w = .ok v w' ∧ VR ι' av v ∧ Step g g' ι ι' w w' ∧ Sat N F g' ι' w0 w'

section
variable {P : Program} {N : Nat} {F : Nat → Prop} {g g' : G} {ι : Io} {w0 w : World}
theorem Fin.pure (hs : Sat N F g ι w0 w) {s : Sem Value} {av : AV} {v : Value} (hr : s.run P w = .ok v w) (hv : VR ι av v) : Fin P N F w0 s av g g ι w :=
  ⟨ι, v, w, hr, hv, Step.refl _ _ _, hs⟩
/-- A block is read. -/
theorem read_ok {k : Nat} {l : Row} (h : g.read k = some (l, g')) (hF : FOK F g') (hs : Sat N F g ι w0 w) :
    g.H.get k = some l ∧ (∃ b m, ι k = .at_ b m ∧ BR ι l.ty l.ex l.toL w b m) ∧ Step g g' ι ι w w ∧ Sat N F g' ι w0 w ∧ g'.H = g.H ∧ g'.n = g.n := by
  unfold G.read at h
  split at h
  · cases h
  · rename_i l' hl
    split at h
    · cases h
    rename_i ty ex n p t
    have pl : F k → ∃ b m, ι k = .at_ b m ∧ BR ι ty ex (Row.cells ty ex n p t).toL w b m := fun hk => hs.rel k _ hk hl
    split at h
    · rename_i hlt
      cases h
      refine ⟨hl, pl (hF.1 k (by simp)), ⟨Nat.le_refl _, rfl, fun k hk => by simp [hk], fun _ h => h, Le.refl _, fun _ _ => .inl rfl, fun _ _ => rfl, fun k b m h1 h2 _ => absurd h2 (by simp at h1 ⊢; omega), fun _ _ _ => rfl, fun _ _ _ => rfl, Nat.le_refl _, rfl, rfl, rfl⟩,
        ⟨hs.inj, hs.bnd, hs.un, hs.dom, hs.rel, hs.bel⟩, rfl, rfl⟩
    · rename_i hlt
      cases h
      have hk : g.thr ≤ k := by
        rcases Nat.lt_or_ge k g.thr with e | e
        · rw [show Nat.blt k g.thr = true by simpa [Nat.blt_eq] using e] at hlt; cases hlt
        · exact e
      exact ⟨hl, pl (hF.2.2 k hk), Step.refl _ _ _, hs, rfl, rfl⟩
/-- A block that holds no cells is looked at. -/
theorem readX_ok {k : Nat} {a : AV} (h : g.readX k = some (a, g')) (hF : FOK F g') (hs : Sat N F g ι w0 w) :
    g.H.get k = some (.odd a) ∧ (∃ b m, ι k = .at_ b m ∧ BS ι w b a) ∧ Step g g' ι ι w w ∧ Sat N F g' ι w0 w ∧ g'.H = g.H ∧ g'.n = g.n := by
  unfold G.readX at h
  split at h
  · cases h
  · rename_i l' hl
    split at h
    · rename_i a'
      have pl : F k → ∃ b m, ι k = .at_ b m ∧ BS ι w b a' := fun hk => hs.rel k _ hk hl
      split at h
      · rename_i hlt
        cases h
        refine ⟨hl, pl (hF.1 k (by simp)), ⟨Nat.le_refl _, rfl, fun k hk => by simp [hk], fun _ h => h, Le.refl _, fun _ _ => .inl rfl, fun _ _ => rfl, fun k b m h1 h2 _ => absurd h2 (by simp at h1 ⊢; omega), fun _ _ _ => rfl, fun _ _ _ => rfl, Nat.le_refl _, rfl, rfl, rfl⟩,
          ⟨hs.inj, hs.bnd, hs.un, hs.dom, hs.rel, hs.bel⟩, rfl, rfl⟩
      · rename_i hlt
        cases h
        have hk : g.thr ≤ k := by
          rcases Nat.lt_or_ge k g.thr with e | e
          · rw [show Nat.blt k g.thr = true by simpa [Nat.blt_eq] using e] at hlt; cases hlt
          · exact e
        exact ⟨hl, pl (hF.2.2 k hk), Step.refl _ _ _, hs, rfl, rfl⟩
    · cases h
/-- A block is written: the world has turned in it alone. -/
theorem write_ok {k b m : Nat} {l l0 : Row} {w' : World} (h : g.write k (some l) = some g') (hF : FOK F g') (hs : Sat N F g ι w0 w) (h0 : g.H.get k = some l0) (hk : ι k = .at_ b m)
    (hb : BX ι l w' b m) (hsz : w'.heap.size = w.heap.size) (hos : w'.os = w.os) (ht : w'.tape = w.tape) (hout : w'.output = w.output) (hfr : ∀ d, d ≠ b → w'.heap[d]? = w.heap[d]?) :
    Step g g' ι ι w w' ∧ Sat N F g' ι w0 w' ∧ g'.n = g.n := by
  have hkn : k < g.n := hs.dom k l0 h0
  have hbb := hs.bnd k b m hk
  obtain ⟨H, hH, e1, e2, e3, e4, e5, e6⟩ : ∃ H, T.set (some l) fuelT g.H k = some H ∧ g'.H = H ∧ g'.n = g.n ∧ g'.thr = g.thr ∧ (∀ j ∈ g.rd, j ∈ g'.rd) ∧ (∀ j ∈ g.wr, j ∈ g'.wr) ∧ Wr g' k := by
    unfold G.write at h
    split at h
    · cases h
    · rename_i H hH
      refine ⟨H, hH, ?_⟩
      split at h
      · cases h
        exact ⟨rfl, rfl, rfl, fun j hj => by simp [hj], fun j hj => by simp [hj], .inl (by simp)⟩
      · rename_i hlt
        split at h
        · cases h
          refine ⟨rfl, rfl, rfl, fun j hj => hj, fun j hj => hj, .inr ?_⟩
          rcases Nat.lt_or_ge k g.thr with e | e
          · rw [show Nat.blt k g.thr = true by simpa [Nat.blt_eq] using e] at hlt; cases hlt
          · exact e
        · cases h
  have hget := T.set_get _ _ _ _ _ hH
  have st : Step g g' ι ι w w' :=
    ⟨by omega, e3, e4, e5, Le.refl _, fun _ _ => .inl rfl, fun _ _ => rfl, fun j d m h1 h2 _ => by omega, fun j hj hw => by
      rw [e1, hget, if_neg (fun e : j = k => hw (by rw [e]; exact e6))], fun d hd hn => hfr d (fun e => by subst e; exact hn k m hkn e6 hk), by omega, hos, ht, hout⟩
  refine ⟨st, ⟨hs.inj, fun j d m' hj => by have := hs.bnd j d m' hj; omega, fun j hj => hs.un j (by omega), fun j l' hl => ?_, fun j l' hj hl => ?_, below_step hs st⟩, e2⟩
  · rw [e1, hget] at hl
    rw [e2]
    split at hl
    · rename_i e; subst e; exact hkn
    · exact hs.dom j l' hl
  · rw [e1, hget] at hl
    split at hl
    · rename_i e; subst e; cases hl; exact ⟨b, m, hk, hb⟩
    · rename_i hne
      obtain ⟨d, m', hd, hbr⟩ := hs.rel j l' hj hl
      exact ⟨d, m', hd, hbr.mono (Le.refl _) (hfr d fun e => hne (by subst e; exact hs.inj j k _ _ _ hd hk))⟩
/-- A new name for a new block. -/
theorem new_okX {k : Nat} {l : Row} {w' : World} {m : Nat} (h : g.new l = some (k, g')) (hN : g'.n ≤ N) (hF : FOK F g') (hs : Sat N F g ι w0 w)
    (hb : BX ι l w' w.heap.size m) (hsz : w'.heap.size = w.heap.size + 1) (hos : w'.os = w.os) (ht : w'.tape = w.tape) (hout : w'.output = w.output) (hfr : ∀ d, d < w.heap.size → w'.heap[d]? = w.heap[d]?) :
    ∃ ι', Step g g' ι ι' w w' ∧ Sat N F g' ι' w0 w' ∧ ι' k = .at_ w.heap.size m ∧ Le ι ι' := by
  obtain ⟨H, hH, rfl, rfl⟩ : ∃ H, T.set (some l) fuelT g.H g.n = some H ∧ k = g.n ∧ g' = ⟨H, g.n + 1, g.thr, g.rd, g.wr⟩ := by
    unfold G.new at h
    split at h
    · cases h
    · rename_i H hH
      rw [forceNat_eq] at h
      cases h
      exact ⟨H, hH, rfl, rfl⟩
  have hget := T.set_get _ _ _ _ _ hH
  have hun : ι g.n = .un := hs.un g.n (Nat.le_refl _) (by simp at hN; omega)
  let ι' : Io := fun j => if j = g.n then .at_ w.heap.size m else ι j
  have hle : Le ι ι' := fun j => by
    by_cases e : j = g.n
    · left; rw [e]; exact hun
    · right; left; simp [ι', e]
  have st : Step g ⟨H, g.n + 1, g.thr, g.rd, g.wr⟩ ι ι' w w' := by
    refine ⟨Nat.le_succ _, rfl, fun _ h => h, fun _ h => h, hle, fun j hj => .inl ?_, fun j hj => ?_, fun j d m' h1 h2 h3 => .inl ?_, fun j hj hw => ?_, fun d hd _ => hfr d hd, by omega, hos, ht, hout⟩
    · show (if j = g.n then _ else _) = _; rw [if_neg (by omega)]
    · show (if j = g.n then _ else _) = _; rw [if_neg (by simp at hj; omega)]
    · have e : j = g.n := by simp at h2; omega
      subst e
      simp [ι'] at h3
      omega
    · show H.get j = _
      rw [hget, if_neg (by omega)]
  refine ⟨ι', st, ⟨fun i j d m1 m2 h1 h2 => ?_, fun i d m1 h1 => ?_, fun i h1 h2 => ?_, fun j l' hl => ?_, fun j l' hj hl => ?_, below_step hs st⟩, by simp [ι'], hle⟩
  · by_cases e1 : i = g.n
    · by_cases e2 : j = g.n
      · rw [e1, e2]
      · simp [ι', e1, e2] at h1 h2
        have := (hs.bnd _ _ _ h2).2
        omega
    · by_cases e2 : j = g.n
      · simp [ι', e1, e2] at h1 h2
        have := (hs.bnd _ _ _ h1).2
        omega
      · simp [ι', e1, e2] at h1 h2
        exact hs.inj _ _ _ _ _ h1 h2
  · by_cases e1 : i = g.n
    · simp [ι', e1] at h1
      have := hs.bel.size
      omega
    · simp [ι', e1] at h1
      have := hs.bnd _ _ _ h1
      omega
  · show (if i = g.n then _ else _) = _
    simp at h1
    rw [if_neg (by omega)]
    exact hs.un i (by omega) h2
  · show j < g.n + 1
    change H.get j = _ at hl
    rw [hget] at hl
    split at hl
    · omega
    · have := hs.dom _ _ hl; omega
  · change H.get j = _ at hl
    rw [hget] at hl
    split at hl
    · rename_i e
      subst e
      cases hl
      exact ⟨w.heap.size, m, by simp [ι'], hb.mono hle rfl⟩
    · rename_i hne
      obtain ⟨d, m', hd, hbr⟩ := hs.rel j l' hj hl
      refine ⟨d, m', by show (if j = g.n then _ else _) = _; rw [if_neg hne]; exact hd, hbr.mono hle (hfr d (hs.bnd _ _ _ hd).2)⟩
theorem new_ok {ty : Nat} {ex : Bool} {k : Nat} {l : List AV} {w' : World} {m : Nat} (h : g.newL ty ex l = some (k, g')) (hN : g'.n ≤ N) (hF : FOK F g') (hs : Sat N F g ι w0 w)
    (hb : BR ι ty ex l w' w.heap.size m) (hsz : w'.heap.size = w.heap.size + 1) (hos : w'.os = w.os) (ht : w'.tape = w.tape) (hout : w'.output = w.output) (hfr : ∀ d, d < w.heap.size → w'.heap[d]? = w.heap[d]?) :
    ∃ ι', Step g g' ι ι' w w' ∧ Sat N F g' ι' w0 w' ∧ ι' k = .at_ w.heap.size m ∧ Le ι ι' := by
  obtain ⟨n, p, t, h1, h2⟩ := newL_some h
  exact new_okX h1 hN hF hs (show BR ι ty ex (Row.cells ty ex n p t).toL w' w.heap.size m by rw [h2]; exact hb) hsz hos ht hout hfr
/-- A block in the world behind an alloc. -/
theorem BR_alloc {ex : Bool} {ι : Io} {l : List AV} {vs : List Value} {w : World} {T : TypeId} (h : VRL ι l vs) (rest : Array Value) (fr : Nat × Nat) (hfr : ∀ off, off < vs.length + rest.size → ¬ (fr.1 ≤ off ∧ off < fr.2)) (hex : ex = true → rest.size = 0) {w' : World}
    (hw : w'.heap[w.heap.size]? = some (.cells (vs.toArray ++ rest) T fr)) : BR ι T ex l w' w.heap.size (vs.length + rest.size) := by
  obtain ⟨h1, h2⟩ := VRL_iff.1 h
  refine ⟨_, T, fr, hw, by simp, fun i a ha => ?_, fun off ho => hfr off (by simpa using ho), rfl, fun e => by rw [hex e, h1]; rfl⟩
  obtain ⟨v, hv, hr⟩ := h2 i a ha
  have hi : i < vs.length := (List.getElem?_eq_some_iff.1 hv).1
  exact ⟨v, by rw [Array.getElem?_append_left (by simpa using hi)]; simpa using hv, hr⟩
theorem heap_alloc_lt (w : World) (o : Obj) {d : Nat} (h : d < w.heap.size) : (w.alloc o).heap[d]? = w.heap[d]? := by
  show (w.heap.push o)[d]? = _
  rw [Array.getElem?_push_lt h, Array.getElem?_eq_getElem h]
theorem heap_alloc_at (w : World) (o : Obj) : (w.alloc o).heap[w.heap.size]? = some o := by
  show (w.heap.push o)[w.heap.size]? = _
  simp
/-- The value is laid in a new block. -/
theorem alloc_ok {ex : Bool} {k : Nat} {l : List AV} {vs : List Value} {T : TypeId} (h : g.newL T ex l = some (k, g')) (hN : g'.n ≤ N) (hF : FOK F g') (hs : Sat N F g ι w0 w) (hl : VRL ι l vs) :
    ∃ ι', Step g g' ι ι' w (w.alloc (.cells vs.toArray T)) ∧ Sat N F g' ι' w0 (w.alloc (.cells vs.toArray T)) ∧ ι' k = .at_ w.heap.size vs.length ∧ Le ι ι' :=
  new_ok h hN hF hs (by
    have := BR_alloc (ex := ex) (w := w) (T := T) hl #[] (0, 0) (fun _ _ => by simp) (fun _ => rfl) (w' := w.alloc (.cells vs.toArray T)) (by rw [heap_alloc_at]; simp)
    simpa using this) (show (w.heap.push _).size = _ by simp) rfl rfl rfl (fun d hd => heap_alloc_lt w _ hd)
theorem alloc_okR {ex : Bool} {k n : Nat} {p : List AV} {t : Eng.T AV} {vs : List Value} {T : TypeId} (h : g.new (.cells T ex n p t) = some (k, g')) (hN : g'.n ≤ N) (hF : FOK F g') (hs : Sat N F g ι w0 w) (hl : VRL ι (Row.cells T ex n p t).toL vs) :
    ∃ ι', Step g g' ι ι' w (w.alloc (.cells vs.toArray T)) ∧ Sat N F g' ι' w0 (w.alloc (.cells vs.toArray T)) ∧ ι' k = .at_ w.heap.size vs.length ∧ Le ι ι' :=
  new_okX h hN hF hs (show BR ι T ex (Row.cells T ex n p t).toL _ w.heap.size vs.length by
    have := BR_alloc (ex := ex) (w := w) (T := T) hl #[] (0, 0) (fun _ _ => by simp) (fun _ => rfl) (w' := w.alloc (.cells vs.toArray T)) (by rw [heap_alloc_at]; simp)
    simpa using this) (show (w.heap.push _).size = _ by simp) rfl rfl rfl (fun d hd => heap_alloc_lt w _ hd)
end
end Go.Proofs.Ytoifejinppjeeaa.Eng
namespace Go.Proofs.Ytoifejinppjeeaa.Eng
open Go Go.RowKit
set_option linter.unusedVariables false
set_option linter.unusedSimpArgs false
section
variable {P : Program} {N : Nat} {F : Nat → Prop} {g g' : G} {ι : Io} {w0 w : World}
theorem plain_ok {s : Sem Value} {av : AV} (h : plainR P s g = some (.val av g')) (hs : Sat N F g ι w0 w) : Fin P N F w0 s av g g' ι w := by
  unfold plainR at h
  split at h
  · rename_i v hv
    rw [forceV_eq] at h
    cases h
    exact Fin.pure hs (ev?_run hv w) (by rw [VR])
  · cases h
theorem run_sz {t : TypeId} {n : Nat} (h : szOf P t = some n) (w : World) : (sizeOf t).run P w = .ok n w := by
  unfold szOf at h
  cases hi : P.info? t with
  | none => simp [hi] at h
  | some i =>
    simp [hi] at h
    simp [sizeOf, typeInfo, hi, h]
theorem run_agg {t : TypeId} {b : Bool} (h : aggT P t = some b) (w : World) : (isAgg t).run P w = .ok b w := by
  unfold aggT at h
  cases hu : P.underlying t with
  | none => simp [hu] at h
  | some d =>
    simp [hu] at h
    unfold isAgg
    rw [Sem.run_bind, run_underlying hu w]
    cases d <;> simp_all
theorem agg_row {t : TypeId} (h : aggT P t = some true) : ∃ d, P.underlying t = some d ∧ d.isRow = true := by
  unfold aggT at h
  cases hu : P.underlying t with
  | none => simp [hu] at h
  | some d =>
    simp [hu] at h
    exact ⟨d, rfl, by cases d <;> simp_all⟩
theorem run_zero {t : TypeId} {l : List AV} (h : zeroT P t = some l) (w : World) : ∃ z i, P.info? t = some i ∧ i.zero = some z ∧ (zeroValue t).run P w = .ok z w ∧ l = mapV z.cells.toList := by
  unfold zeroT at h
  split at h
  · rename_i i hi
    split at h
    · rename_i z hz
      cases h
      exact ⟨z, i, hi, hz, by simp [zeroValue, typeInfo, hi, hz], rfl⟩
    · cases h
  · cases h
theorem info_size {t : TypeId} {n : Nat} (h : szOf P t = some n) : (P.info? t).map (·.size) = some n := h

/-! ### load, store, alloc, box -/
theorem load_at {t : TypeId} {a av : AV} {x : Value} (h : evLoad P t a g = some (.val av g')) (hx : VR ι a x) (hF : FOK F g') (hs : Sat N F g ι w0 w) :
    ∃ v, (Instr.loadAt t x).run P w = .ok v w ∧ VR ι av v ∧ Step g g' ι ι w w ∧ Sat N F g' ι w0 w := by
  unfold evLoad at h
  split at h
  · rename_i k off
    rw [VR] at hx
    obtain ⟨b, rfl, hk⟩ := hx
    split at h
    · rename_i l g1 hr
      split at h
      · rename_i v hp
        cases h
        obtain ⟨h1, ⟨b', m, h2, h3⟩, st, sat, _⟩ := read_ok hr hF hs
        obtain rfl : b' = b := by
          rcases hk with hk | ⟨m', hk⟩
          · rw [h2] at hk; cases hk
          · rw [h2] at hk; cases hk; rfl
        unfold partR at hp
        split at hp
        · rename_i ha
          split at hp
          · rename_i n hn
            split at hp
            · rename_i cs hc
              cases hp
              obtain ⟨vs, hv, hl, hrg⟩ := h3.range (rowSlice_ok hc)
              obtain ⟨d, hd, hd2⟩ := agg_row ha
              exact ⟨_, run_loadAt_mid w b' off t vs d hrg hd hd2 (by rw [hl]; exact info_size hn), VR_mkAgg hv, st, sat⟩
            · cases hp
          · cases hp
        · rename_i ha
          replace hp := rowGet_ok hp
          rw [getL_eq] at hp
          obtain ⟨x, hx, hxr⟩ := h3.cell hp
          refine ⟨x, ?_, hxr, st, sat⟩
          simp [Instr.loadAt, Instr.sureAddr, loadVar, Sem.run_bind, run_agg ha w, hx]
        · cases hp
      · cases h
    · cases h
  · cases h
theorem load_ok {t : TypeId} {a av : AV} {x : Value} (h : evLoad P t a g = some (.val av g')) (hx : VR ι a x) (hF : FOK F g') (hs : Sat N F g ι w0 w) : Fin P N F w0 (Instr.loadAt t x) av g g' ι w := by
  obtain ⟨v, h1, h2, h3, h4⟩ := load_at (P := P) h hx hF hs
  exact ⟨ι, v, w, h1, h2, h3, h4⟩
theorem setCells_heap (w : World) (b : Nat) : ∀ (vs : List Value) (o : Nat), (w.setCells b o vs).heap.size = w.heap.size ∧ (w.setCells b o vs).os = w.os ∧ (w.setCells b o vs).tape = w.tape ∧ (w.setCells b o vs).output = w.output ∧
    (∀ d, d ≠ b → (w.setCells b o vs).heap[d]? = w.heap[d]?) ∧
    ∀ c T fr, w.heap[b]? = some (.cells c T fr) → ∃ c', (w.setCells b o vs).heap[b]? = some (.cells c' T fr) ∧ c'.size = c.size := by
  intro vs
  induction vs generalizing w with
  | nil => intro o; exact ⟨rfl, rfl, rfl, rfl, fun _ _ => rfl, fun c T fr h => ⟨c, h, rfl⟩⟩
  | cons v vs ih =>
    intro o
    rw [World.setCells]
    obtain ⟨h1, h2, h3, h4, h5, h6⟩ := ih (w.setCell ⟨b, o, none⟩ v) (o + 1)
    refine ⟨h1.trans (by simp [World.setCell]), h2, h3, h4, fun d hd => (h5 d hd).trans ?_, fun c T fr hc => ?_⟩
    · show (w.heap.modify b _)[d]? = _
      rw [Array.getElem?_modify, if_neg (fun e => hd e.symm)]
    · obtain ⟨c', h7, h8⟩ := h6 (c.setIfInBounds o v) T fr (by
        show (w.heap.modify b _)[b]? = _
        rw [Array.getElem?_modify, if_pos rfl, hc]
        simp)
      exact ⟨c', h7, by rw [h8]; simp⟩
/-- Cells stored into a block that is known. -/
theorem BR.stored {ty : Nat} {ex : Bool} {l l' cs : List AV} {vs : List Value} {b m o : Nat} (h : BR ι ty ex l w b m) (hv : VRL ι cs vs) (hl : setsL l o cs = some l') : BR ι ty ex l' (w.setCells b o vs) b m := by
  obtain ⟨h1, h2, h3⟩ := setsL_some _ _ _ _ hl
  have hlen := h.len
  obtain ⟨hvl, hvr⟩ := VRL_iff.1 hv
  have hth : w.there b o vs.length := by
    rcases h1 with h1 | h1
    · have : vs.length = 0 := by rw [hvl, h1]; rfl
      intro j hj; omega
    · exact h.there (by omega)
  obtain ⟨c, T, fr, hc, hm, hr, hf, hty, hex⟩ := h
  obtain ⟨_, _, _, _, _, h6⟩ := setCells_heap w b vs o
  obtain ⟨c', hc', hs'⟩ := h6 c T fr hc
  refine ⟨c', T, fr, hc', by omega, fun i a ha => ?_, fun off ho => hf off (by omega), hty, fun e => by rw [h2]; exact hex e⟩
  rw [h3 i] at ha
  have cell' : (w.setCells b o vs).cell? ⟨b, i, none⟩ = c'[i]? := cell_of_row _ b i c' T fr hc'
  rw [← cell']
  split at ha
  · rename_i hi
    obtain ⟨v, hv1, hv2⟩ := hvr _ _ ha
    have hj : i - o < vs.length := (List.getElem?_eq_some_iff.1 hv1).1
    have := World.cell?_setCells_in b vs o w (fun j hj => (hth j hj).1) (i - o) hj
    rw [show o + (i - o) = i by omega] at this
    refine ⟨v, ?_, hv2⟩
    rw [this, ← hv1, List.getElem?_eq_getElem hj]
  · rename_i hi
    obtain ⟨v, hv1, hv2⟩ := hr _ _ ha
    refine ⟨v, ?_, hv2⟩
    rw [World.cell?_setCells_out b vs o w ⟨b, i, none⟩ (fun _ _ => by show i < o ∨ o + vs.length ≤ i; omega), cell_of_row w b i c T fr hc, hv1]
theorem store_ok {t : TypeId} {a x av : AV} {va vx : Value} (h : evStore P t a x g = some (.val av g')) (ha : VR ι a va) (hx : VR ι x vx) (hF : FOK F g') (hs : Sat N F g ι w0 w) :
    ∃ w', (Instr.storeAt t va vx).run P w = .ok () w' ∧ av = .v undef ∧ Step g g' ι ι w w' ∧ Sat N F g' ι w0 w' := by
  unfold evStore at h
  split at h
  · rename_i k off
    rw [VR] at ha
    obtain ⟨b, rfl, hk⟩ := ha
    split at h
    · rename_i n l g1 hn hr
      split at h
      · rename_i hlen hone
        split at h
        · rename_i l' hl'
          split at h
          · rename_i g2 hw
            cases h
            obtain ⟨⟨_, _, _, rfl⟩, hl'⟩ := rowSets_ok hl'
            have hF1 : FOK F g1 := by
              unfold G.write at hw
              split at hw
              · cases hw
              · repeat' split at hw
                all_goals first
                  | (cases hw; done)
                  | (cases hw; exact ⟨fun k hk => hF.1 k (by simp [hk]), fun k hk => hF.2.1 k (by simp [hk]), hF.2.2⟩)
            obtain ⟨h1, ⟨b', m, h2, h3⟩, st, sat, hH, hn1⟩ := read_ok hr hF1 hs
            obtain rfl : b' = b := by
              rcases hk with hk | ⟨m', hk⟩
              · rw [h2] at hk; cases hk
              · rw [h2] at hk; cases hk; rfl
            have hv := VR_cells hx
            have hlv : vx.cells.size = n := by
              have := (VRL_iff.1 hv).1
              rw [Array.length_toList] at this
              rw [this]; exact beq_tt hlen
            have hb := h3.stored hv hl'
            obtain ⟨e1, e2, e3, e4, e5, _⟩ := setCells_heap w b' vx.cells.toList off
            obtain ⟨st2, sat2, _⟩ := write_ok hw hF sat (by rw [hH]; exact h1) h2 hb e1 e2 e3 e4 e5
            refine ⟨_, ?_, rfl, st.trans st2, sat2⟩
            have hth : w.there b' off vx.cells.toList.length := by
              obtain ⟨q1, q2, q3⟩ := setsL_some _ _ _ _ hl'
              have := (VRL_iff.1 hv).1
              have hlen := h3.len
              rcases q1 with q1 | q1
              · rw [q1] at this; intro j hj; rw [this] at hj; simp at hj
              · exact h3.there (by rw [this]; omega)
            have hrun := run_storeCells_cells (P := P) b' off vx.cells.toList 0 w (fun j hj => by simpa using (hth j hj).1) (fun j hj => by simpa using (hth j hj).2) (allOne_VRL hone hv)
            simp only [Nat.add_zero] at hrun
            simp [Instr.storeAt, Instr.sureAddr, storeVar, Sem.run_bind, run_sz hn w, hlv, hrun]
          · cases h
        · cases h
      · cases h
    · cases h
  · cases h
theorem alloc_instr {t : TypeId} {l : List AV} {k : Nat} {old : Value} (hz : zeroT P t = some l) (h : g.newL t true l = some (k, g')) (hN : g'.n ≤ N) (hF : FOK F g') (hs : Sat N F g ι w0 w) :
    Fin P N F w0 (Instr.alloc t true old) (.ptr k 0) g g' ι w := by
  obtain ⟨z, i, hi, hz2, hzr, rfl⟩ := run_zero hz w
  obtain ⟨ι', st, sat, hk, hle⟩ := alloc_ok (T := t) h hN hF hs (VRL_mapV z.cells.toList)
  refine ⟨ι', .pointer (some ⟨w.heap.size, 0, none⟩), _, ?_, by rw [VR]; exact ⟨_, rfl, .inr ⟨_, hk⟩⟩, st, sat⟩
  simp [Instr.alloc, Sem.run_bind, hzr, newVar, newRow]
theorem box_instr {t : TypeId} {a : AV} {x : Value} {k : Nat} (h : g.newL t true a.cells = some (k, g')) (hx : VR ι a x) (hN : g'.n ≤ N) (hF : FOK F g') (hs : Sat N F g ι w0 w) :
    Fin P N F w0 (Instr.box t x) (.ptr k 0) g g' ι w := by
  obtain ⟨ι', st, sat, hk, hle⟩ := alloc_ok (T := t) h hN hF hs (VR_cells hx)
  refine ⟨ι', .pointer (some ⟨w.heap.size, 0, none⟩), _, ?_, by rw [VR]; exact ⟨_, rfl, .inr ⟨_, hk⟩⟩, st, sat⟩
  simp [Instr.box, Sem.run_bind, newVar, newRow]
end
end Go.Proofs.Ytoifejinppjeeaa.Eng
namespace Go.Proofs.Ytoifejinppjeeaa.Eng
open Go Go.RowKit
set_option linter.unusedVariables false
set_option linter.unusedSimpArgs false
section
variable {P : Program} {N : Nat} {F : Nat → Prop} {g g' : G} {ι : Io} {w0 w : World}
theorem fieldAddr_ok {s : TypeId} {x av : AV} {f : Nat} {v : Value} (h : evFieldAddr P s x f = some av) (hx : VR ι x v) (hs : Sat N F g ι w0 w) : Fin P N F w0 (Instr.fieldAt s v f) av g g ι w := by
  unfold evFieldAddr at h
  split at h
  · rename_i fields k off hu
    split at h
    · rename_i fd hf
      split at h
      · rename_i n hn
        cases h
        rw [VR] at hx
        obtain ⟨b, rfl, hk⟩ := hx
        refine Fin.pure hs (v := .pointer (some ⟨b, off + fd.offset, none⟩)) ?_ (by rw [VR]; exact ⟨b, rfl, hk⟩)
        simp [Instr.fieldAt, Sem.run_bind, run_underlying hu, hf, Instr.sureAddr, fieldPlace, run_sz hn, Addr.add_mid]
      · cases h
    · cases h
  · cases h
theorem indexAddr_ok {t : TypeId} {x i av : AV} {vx vi : Value} (h : evIndexAddr P t x i = some av) (hx : VR ι x vx) (hi : VR ι i vi) (hs : Sat N F g ι w0 w) : Fin P N F w0 (Instr.indexAt t vx vi) av g g ι w := by
  unfold evIndexAddr at h
  split at h
  · rename_i len elem k off ki j hu
    split at h
    · rename_i size hlt hn
      cases h
      rw [VR] at hx
      rw [VR] at hi
      obtain ⟨b, rfl, hk⟩ := hx
      subst hi
      have hj : j < len := by simpa [Nat.blt_eq] using hlt
      refine Fin.pure hs (v := .pointer (some ⟨b, off + j * size, none⟩)) ?_ (by rw [VR]; exact ⟨b, rfl, hk⟩)
      have e1 : (Int.ofNat j) < (len : Int) := by simp; omega
      have e2 : 0 ≤ Int.ofNat j := Int.natCast_nonneg j
      simp [Instr.indexAt, Sem.run_bind, asIntOf, run_underlying hu, Instr.sureAddr, hj, run_sz hn, Addr.add_mid]
    · cases h
  · rename_i elem k off len cap sz ki j hu
    split at h
    · rename_i size hlt hn
      split at h
      · rename_i hsz
        cases h
        rw [VR] at hx
        rw [VR] at hi
        obtain ⟨b, c, rfl, hlc, hcap, hk⟩ := hx
        subst hi
        have hj : j < len := by simpa [Nat.blt_eq] using hlt
        refine Fin.pure hs (v := .pointer (some ⟨b, off + j * size, none⟩)) ?_ (by
          rw [VR]
          refine ⟨b, rfl, ?_⟩
          rcases hk with hk | ⟨m, hk, _⟩
          · exact .inl hk
          · exact .inr ⟨m, hk⟩)
        simp [Instr.indexAt, Sem.run_bind, asIntOf, run_underlying hu, Instr.sureAddr, hj, run_sz hn, Addr.add_mid]
      · cases h
    · cases h
  · cases h
/-! ### slices -/
def OVR (ι : Io) : Option AV → Option Value → Prop
  | none, v => v = none
  | some a, v => ∃ x, v = some x ∧ VR ι a x
theorem bound_run {x : AV} {v : Value} {y n y' : Nat} (h : bound? x y = some n) (hx : VR ι x v) (hy : y ≤ y') (code : BoundsCode) : n ≤ y ∧ (Instr.sliceBound v y' code).run P w = .ok n w := by
  unfold bound? at h
  split at h
  · rename_i k m
    split at h
    · rename_i hm
      cases h
      rw [VR] at hx
      subst hx
      have hm' : n ≤ y := Nat.le_of_ble_eq_true hm
      refine ⟨hm', ?_⟩
      have : n ≤ y' := by omega
      simp [Instr.sliceBound, Sem.run_bind, asIntOf, this]
    · cases h
  · cases h
theorem bounds_run {isS : Bool} {lo hi mx : Option AV} {vlo vhi vmx : Option Value} {len cap q m m' h l : Nat} (hlo : OVR ι lo vlo) (hhi : OVR ι hi vhi) (hmx : OVR ι mx vmx) (hno : ¬ (hi = none ∧ ∃ a, mx = some a))
    (hm : (mx = none ∧ m' = cap) ∨ (∃ a, mx = some a ∧ bound? a q = some m' ∧ q ≤ cap)) (hmm : m ≤ m') (hh : obound? hi m len = some h) (hl : obound? lo h 0 = some l) :
    (Instr.sliceBounds isS len cap vlo vhi vmx).run P w = .ok (l, h, m') w ∧ l ≤ h ∧ (∀ a, hi = some a → h ≤ m) := by
  have hlrun : l ≤ h ∧ ((vlo = none ∧ l = 0) ∨ ∃ v, vlo = some v ∧ ∀ code, (Instr.sliceBound v h code).run P w = .ok l w) := by
    cases lo with
    | none =>
      rw [OVR] at hlo
      subst hlo
      simp [obound?] at hl
      subst hl
      exact ⟨Nat.zero_le _, .inl ⟨rfl, rfl⟩⟩
    | some a =>
      rw [OVR] at hlo
      obtain ⟨x, rfl, hx⟩ := hlo
      exact ⟨(bound_run (P := P) (w := w) (y' := h) hl hx (Nat.le_refl _) .index).1, .inr ⟨x, rfl, fun code => (bound_run (P := P) (w := w) (y' := h) hl hx (Nat.le_refl _) code).2⟩⟩
  obtain ⟨hlh, hlrun⟩ := hlrun
  rcases hm with ⟨rfl, rfl⟩ | ⟨a, rfl, hm, hq⟩
  · rw [OVR] at hmx
    subst hmx
    cases hi with
    | none =>
      rw [OVR] at hhi
      subst hhi
      simp [obound?] at hh
      subst hh
      refine ⟨?_, hlh, fun a e => by cases e⟩
      rcases hlrun with ⟨rfl, rfl⟩ | ⟨v, rfl, hv⟩
      · simp only [Instr.sliceBounds, Sem.run_bind, Sem.run_pure, Result.andThen_ok, Option.isSome_none, Bool.false_eq_true, if_false]
      · simp only [Instr.sliceBounds, Sem.run_bind, Sem.run_pure, Result.andThen_ok, hv, Option.isSome_none, Bool.false_eq_true, if_false]
    | some a =>
      rw [OVR] at hhi
      obtain ⟨x, rfl, hx⟩ := hhi
      obtain ⟨h1, h2⟩ := bound_run (P := P) (w := w) (y' := m') hh hx hmm (if isS = true then .sliceAcap else .sliceAlen)
      refine ⟨?_, hlh, fun b e => h1⟩
      rcases hlrun with ⟨rfl, rfl⟩ | ⟨v, rfl, hv⟩
      · simp only [Instr.sliceBounds, Sem.run_bind, Sem.run_pure, Result.andThen_ok, Option.isSome_none, Bool.false_eq_true, if_false, h2]
      · simp only [Instr.sliceBounds, Sem.run_bind, Sem.run_pure, Result.andThen_ok, hv, Option.isSome_none, Bool.false_eq_true, if_false, h2]
  · rw [OVR] at hmx
    obtain ⟨xm, rfl, hxm⟩ := hmx
    cases hi with
    | none => exact absurd ⟨rfl, a, rfl⟩ hno
    | some b =>
      rw [OVR] at hhi
      obtain ⟨x, rfl, hx⟩ := hhi
      obtain ⟨_, h0⟩ := bound_run (P := P) (w := w) (y' := cap) hm hxm hq (if isS = true then .slice3Acap else .slice3Alen)
      obtain ⟨h1, h2⟩ := bound_run (P := P) (w := w) (y' := m') hh hx hmm .slice3B
      refine ⟨?_, hlh, fun b e => h1⟩
      rcases hlrun with ⟨rfl, rfl⟩ | ⟨v, rfl, hv⟩
      · simp only [Instr.sliceBounds, Sem.run_bind, Sem.run_pure, Result.andThen_ok, Option.isSome_some, if_true, h0, h2]
      · simp only [Instr.sliceBounds, Sem.run_bind, Sem.run_pure, Result.andThen_ok, hv, Option.isSome_some, if_true, h0, h2]
theorem OVR_v {a : Option AV} {v : Option Value} (h : OVR ι a v) : (a = none → v = none) ∧ ∀ x, a = some (.v x) → v = some x := by
  cases a with
  | none => rw [OVR] at h; exact ⟨fun _ => h, fun x e => by cases e⟩
  | some a =>
    rw [OVR] at h
    obtain ⟨x, rfl, hx⟩ := h
    refine ⟨fun e => (by cases e), fun y e => ?_⟩
    cases e
    rw [VR] at hx
    rw [hx]
theorem obound_mx {mx : Option AV} {n m : Nat} (h : obound? mx n n = some m) : (mx = none ∧ m = n) ∨ (∃ a, mx = some a ∧ bound? a n = some m ∧ n ≤ n) := by
  cases mx with
  | none => simp [obound?] at h; exact .inl ⟨rfl, h.symm⟩
  | some a => exact .inr ⟨a, rfl, h, Nat.le_refl _⟩
theorem mx_le {mx : Option AV} {n m : Nat} (h : obound? mx n n = some m) : m ≤ n := by
  cases mx with
  | none => simp [obound?] at h; omega
  | some a =>
    simp only [obound?, bound?] at h
    split at h
    · split at h
      · rename_i hm; cases h; exact Nat.le_of_ble_eq_true hm
      · cases h
    · cases h
theorem slice_ok {t : TypeId} {x av : AV} {lo hi mx : Option AV} {vx : Value} {vlo vhi vmx : Option Value} (h : evSlice P t x lo hi mx g = some (.val av g')) (hx : VR ι x vx) (hlo : OVR ι lo vlo) (hhi : OVR ι hi vhi) (hmx : OVR ι mx vmx)
    (hs : Sat N F g ι w0 w) : Fin P N F w0 (Instr.sliceAt t vx vlo vhi vmx) av g g' ι w := by
  have hno : ¬ (hi = none ∧ ∃ a, mx = some a) := by
    rintro ⟨rfl, a, rfl⟩
    simp [evSlice] at h
  replace h : evSliceA P t x lo hi mx g = some (.val av g') := by
    unfold evSlice at h
    split at h
    · cases h
    · exact h
  unfold evSliceA at h
  split at h
  · rename_i n elem k off hu
    rw [VR] at hx
    obtain ⟨b, rfl, hk⟩ := hx
    split at h
    · rename_i size m hn hm
      split at h
      · rename_i hh hhe
        split at h
        · rename_i l hle
          obtain ⟨r1, r2, r3⟩ := bounds_run (P := P) (w := w) (isS := false) (len := n) (cap := n) hlo hhi hmx hno (obound_mx hm) (Nat.le_refl m) hhe hle
          have hmn := mx_le hm
          have hhm : hh ≤ m := by
            cases hi with
            | none =>
              have : mx = none := by
                cases mx with
                | none => rfl
                | some a => exact absurd ⟨rfl, a, rfl⟩ hno
              subst this
              simp [obound?] at hhe hm
              omega
            | some a => exact r3 a rfl
          split at h
          · rename_i hml
            cases h
            have hml' : m = l := beq_tt hml
            refine Fin.pure hs (v := .slice (some ⟨b, off, none⟩) (hh - l) (m - l)) ?_ (by
              rw [VR]
              refine ⟨b, m - l, rfl, by omega, fun c' e => by cases e; rfl, ?_⟩
              rcases hk with hk | ⟨q, hk⟩
              · exact .inl hk
              · exact .inr ⟨q, hk, fun e => by cases e⟩)
            simp [Instr.sliceAt, Sem.run_bind, run_underlying hu, Instr.sureAddr, r1, run_sz hn, hml']
          · rename_i hml
            cases h
            have hml' : ¬ m = l := fun e => by rw [e] at hml; simp at hml
            refine Fin.pure hs (v := .slice (some ⟨b, off + l * size, none⟩) (hh - l) (m - l)) ?_ (by
              rw [VR]
              refine ⟨b, m - l, rfl, by omega, fun c' e => by cases e; rfl, ?_⟩
              rcases hk with hk | ⟨q, hk⟩
              · exact .inl hk
              · exact .inr ⟨q, hk, fun e => by cases e⟩)
            simp [Instr.sliceAt, Sem.run_bind, run_underlying hu, Instr.sureAddr, r1, run_sz hn, hml', Addr.add_mid]
        · cases h
      · cases h
    · cases h
  · rename_i elem k off len cap sz hu
    rw [VR] at hx
    obtain ⟨b, c, rfl, hlc, hcap, hk⟩ := hx
    split at h
    · rename_i size hn
      split at h
      · rename_i hsz
        obtain rfl : size = sz := beq_tt hsz
        split at h
        · rename_i c'
          obtain rfl : c = c' := hcap c' rfl
          split at h
          · rename_i m hm
            split at h
            · rename_i hh hhe
              split at h
              · rename_i l hle
                obtain ⟨r1, r2, r3⟩ := bounds_run (P := P) (w := w) (isS := true) (len := len) (cap := c) hlo hhi hmx hno (obound_mx hm) (Nat.le_refl m) hhe hle
                have hmn := mx_le hm
                have hhm : hh ≤ m := by
                  cases hi with
                  | none =>
                    have : mx = none := by
                      cases mx with
                      | none => rfl
                      | some a => exact absurd ⟨rfl, a, rfl⟩ hno
                    subst this
                    simp [obound?] at hhe hm
                    omega
                  | some a => exact r3 a rfl
                split at h
                · rename_i hml
                  cases h
                  have hml' : m = l := beq_tt hml
                  refine Fin.pure hs (v := .slice (some ⟨b, off, none⟩) (hh - l) (m - l)) ?_ (by
                    rw [VR]
                    refine ⟨b, m - l, rfl, by omega, fun c' e => by cases e; rfl, ?_⟩
                    rcases hk with hk | ⟨q, hk, _⟩
                    · exact .inl hk
                    · exact .inr ⟨q, hk, fun e => by cases e⟩)
                  simp [Instr.sliceAt, Instr.slice, Sem.run_bind, run_underlying hu, r1, run_sz hn, hml']
                · rename_i hml
                  cases h
                  have hml' : ¬ m = l := fun e => by rw [e] at hml; simp at hml
                  refine Fin.pure hs (v := .slice (some ⟨b, off + l * size, none⟩) (hh - l) (m - l)) ?_ (by
                    rw [VR]
                    refine ⟨b, m - l, rfl, by omega, fun c' e => by cases e; rfl, ?_⟩
                    rcases hk with hk | ⟨q, hk, _⟩
                    · exact .inl hk
                    · exact .inr ⟨q, hk, fun e => by cases e⟩)
                  simp [Instr.sliceAt, Instr.slice, Sem.run_bind, run_underlying hu, r1, run_sz hn, hml', Addr.add_mid]
              · cases h
            · cases h
          · cases h
        · split at h
          · rename_i mxa
            split at h
            · rename_i m hm
              split at h
              · rename_i hh hhe
                split at h
                · rename_i l hle
                  obtain ⟨r1, r2, r3⟩ := bounds_run (P := P) (w := w) (isS := true) (len := len) (cap := c) hlo hhi hmx hno (.inr ⟨mxa, rfl, hm, hlc⟩) (Nat.le_refl m) hhe hle
                  have hhm : hh ≤ m := by
                    cases hi with
                    | none => exact absurd ⟨rfl, mxa, rfl⟩ hno
                    | some a => exact r3 a rfl
                  split at h
                  · rename_i hml
                    cases h
                    have hml' : m = l := beq_tt hml
                    refine Fin.pure hs (v := .slice (some ⟨b, off, none⟩) (hh - l) (m - l)) ?_ (by
                      rw [VR]
                      refine ⟨b, m - l, rfl, by omega, fun c' e => by cases e; rfl, ?_⟩
                      rcases hk with hk | ⟨q, hk, _⟩
                      · exact .inl hk
                      · exact .inr ⟨q, hk, fun e => by cases e⟩)
                    simp [Instr.sliceAt, Instr.slice, Sem.run_bind, run_underlying hu, r1, run_sz hn, hml']
                  · rename_i hml
                    cases h
                    have hml' : ¬ m = l := fun e => by rw [e] at hml; simp at hml
                    refine Fin.pure hs (v := .slice (some ⟨b, off + l * size, none⟩) (hh - l) (m - l)) ?_ (by
                      rw [VR]
                      refine ⟨b, m - l, rfl, by omega, fun c' e => by cases e; rfl, ?_⟩
                      rcases hk with hk | ⟨q, hk, _⟩
                      · exact .inl hk
                      · exact .inr ⟨q, hk, fun e => by cases e⟩)
                    simp [Instr.sliceAt, Instr.slice, Sem.run_bind, run_underlying hu, r1, run_sz hn, hml', Addr.add_mid]
                · cases h
              · cases h
            · cases h
          · split at h
            · rename_i hh hhe
              split at h
              · rename_i l hle
                obtain ⟨r1, r2, r3⟩ := bounds_run (P := P) (w := w) (isS := true) (len := len) (cap := c) (q := c) hlo hhi hmx hno (.inl ⟨rfl, rfl⟩) hlc hhe hle
                have hhm : hh ≤ len := by
                  cases hi with
                  | none => simp [obound?] at hhe; omega
                  | some a => exact r3 a rfl
                split at h
                · rename_i hlt
                  cases h
                  have hlt' : l < len := by simpa [Nat.blt_eq] using hlt
                  have hml' : ¬ c = l := by omega
                  refine Fin.pure hs (v := .slice (some ⟨b, off + l * size, none⟩) (hh - l) (c - l)) ?_ (by
                    rw [VR]
                    refine ⟨b, c - l, rfl, by omega, (fun c' e => by cases e), ?_⟩
                    rcases hk with hk | ⟨q, hk, hq⟩
                    · exact .inl hk
                    · refine .inr ⟨q, hk, fun _ => ?_⟩
                      have := hq rfl
                      have e : l * size + (c - l) * size = c * size := by rw [← Nat.add_mul]; congr 1; omega
                      omega)
                  simp [Instr.sliceAt, Instr.slice, Sem.run_bind, run_underlying hu, r1, run_sz hn, hml', Addr.add_mid]
                · rename_i hlt hl0
                  cases h
                  obtain rfl : l = 0 := beq_tt hl0
                  refine Fin.pure hs (v := .slice (some ⟨b, off, none⟩) hh c) ?_ (by
                    rw [VR]
                    refine ⟨b, c, rfl, by omega, (fun c' e => by cases e), ?_⟩
                    rcases hk with hk | ⟨q, hk, hq⟩
                    · exact .inl hk
                    · exact .inr ⟨q, hk, fun _ => hq rfl⟩)
                  simp [Instr.sliceAt, Instr.slice, Sem.run_bind, run_underlying hu, r1, run_sz hn, Addr.add_mid]
                · rename_i hlt hl0
                  cases h
                  have hll : len ≤ l := by
                    rcases Nat.lt_or_ge l len with e | e
                    · rw [show Nat.blt l len = true by simpa [Nat.blt_eq] using e] at hlt; cases hlt
                    · exact e
                  refine Fin.pure hs (v := .slice (some (if c = l then (⟨b, off, none⟩ : Addr) else (⟨b, off, none⟩ : Addr).add (l * size))) (hh - l) (c - l)) ?_ (by
                    rw [VR]
                    exact ⟨(if c = l then (⟨b, off, none⟩ : Addr) else (⟨b, off, none⟩ : Addr).add (l * size)), c - l, by rw [show hh - l = 0 by omega]⟩)
                  simp [Instr.sliceAt, Instr.slice, Sem.run_bind, run_underlying hu, r1, run_sz hn]
                  split <;> rfl
              · cases h
            · cases h
      · cases h
    · cases h
  · rename_i x' _ _
    rw [VR] at hx
    subst hx
    split at h
    · obtain rfl := (OVR_v hlo).1 rfl
      obtain rfl := (OVR_v hhi).1 rfl
      obtain rfl := (OVR_v hmx).1 rfl
      exact plain_ok h hs
    · obtain rfl := (OVR_v hlo).2 _ rfl
      obtain rfl := (OVR_v hhi).1 rfl
      obtain rfl := (OVR_v hmx).1 rfl
      exact plain_ok h hs
    · obtain rfl := (OVR_v hlo).1 rfl
      obtain rfl := (OVR_v hhi).2 _ rfl
      obtain rfl := (OVR_v hmx).1 rfl
      exact plain_ok h hs
    · obtain rfl := (OVR_v hlo).2 _ rfl
      obtain rfl := (OVR_v hhi).2 _ rfl
      obtain rfl := (OVR_v hmx).1 rfl
      exact plain_ok h hs
    · obtain rfl := (OVR_v hlo).2 _ rfl
      obtain rfl := (OVR_v hhi).2 _ rfl
      obtain rfl := (OVR_v hmx).2 _ rfl
      exact plain_ok h hs
    · obtain rfl := (OVR_v hlo).1 rfl
      obtain rfl := (OVR_v hhi).2 _ rfl
      obtain rfl := (OVR_v hmx).2 _ rfl
      exact plain_ok h hs
    · cases h
  · cases h
end
end Go.Proofs.Ytoifejinppjeeaa.Eng
namespace Go.Proofs.Ytoifejinppjeeaa.Eng
open Go Go.RowKit
set_option linter.unusedVariables false
set_option linter.unusedSimpArgs false
section
variable {P : Program} {N : Nat} {F : Nat → Prop} {g g' : G} {ι : Io} {w0 w : World}
theorem VRL_slice {l cs : List AV} {vs : List Value} {o n : Nat} (h : VRL ι l vs) (hs : slice? l o n = some cs) : VRL ι cs ((vs.drop o).take n) ∧ o + n ≤ vs.length := by
  obtain ⟨h1, h2, h3⟩ := slice?_some hs
  obtain ⟨h4, h5⟩ := VRL_iff.1 h
  refine ⟨VRL_iff.2 ⟨by rw [List.length_take, List.length_drop]; omega, fun i a ha => ?_⟩, by omega⟩
  have hi : i < n := by rw [← h1]; exact (List.getElem?_eq_some_iff.1 ha).1
  rw [h3 i hi] at ha
  obtain ⟨v, hv, hr⟩ := h5 _ _ ha
  exact ⟨v, by rw [List.getElem?_take_of_lt hi, List.getElem?_drop]; exact hv, hr⟩
theorem part_run {t : TypeId} {l : List AV} {o : Nat} {av : AV} {vs : Array Value} (hp : part? P t l o = some av) (h : VRL ι l vs.toList) : ∃ v, (∀ w, (part t vs o).run P w = .ok v w) ∧ VR ι av v := by
  unfold part? at hp
  split at hp
  · rename_i ha
    split at hp
    · rename_i n hn
      split at hp
      · rename_i cs hc
        cases hp
        obtain ⟨h1, h2⟩ := VRL_slice h hc
        refine ⟨.agg (vs.extract o (o + n)), fun w => by simp [part, Sem.run_bind, run_agg ha w, run_sz hn w], ?_⟩
        have e : vs.extract o (o + n) = ((vs.toList.drop o).take n).toArray := by
          apply Array.toList_inj.1
          rw [Array.toList_extract]
          simp [List.extract]
        rw [e]
        exact VR_mkAgg h1
      · cases hp
    · cases hp
  · rename_i ha
    rw [getL_eq] at hp
    obtain ⟨v, hv, hr⟩ := (VRL_iff.1 h).2 _ _ hp
    refine ⟨v, fun w => ?_, hr⟩
    have : vs[o]? = some v := by rw [← Array.getElem?_toList]; exact hv
    simp [part, Sem.run_bind, run_agg ha w, this]
  · cases hp
theorem field_ok {t : TypeId} {x av : AV} {f : Nat} {v : Value} (h : evField P t x f g = some (.val av g')) (hx : VR ι x v) (hs : Sat N F g ι w0 w) : Fin P N F w0 (Instr.field t v f) av g g' ι w := by
  unfold evField at h
  split at h
  · rw [VR] at hx
    subst hx
    exact plain_ok h hs
  · split at h
    · rename_i fields hu
      split at h
      · rename_i fd hf
        split at h
        · rename_i a hp
          cases h
          rw [VR] at hx
          obtain ⟨vs, rfl, hl⟩ := hx
          obtain ⟨v, hv, hr⟩ := part_run (P := P) hp hl
          exact Fin.pure hs (by simp [Instr.field, Sem.run_bind, run_underlying hu, hf, asAgg, hv]) hr
        · cases h
      · cases h
    · cases h
  · cases h
theorem index_agg_ok {t elem : TypeId} {l : List AV} {len i size : Nat} {k : IntKind} {av : AV} {v : Value} (hu : P.underlying t = some (.array len elem)) (hi : i < len) (hn : szOf P elem = some size) (hp : part? P elem l (i * size) = some av) (hx : VR ι (.agg l) v)
    (hs : Sat N F g ι w0 w) : Fin P N F w0 (Instr.index t v (.int k (.ofNat i))) av g g ι w := by
  rw [VR] at hx
  obtain ⟨vs, rfl, hl⟩ := hx
  obtain ⟨v, hv, hr⟩ := part_run (P := P) hp hl
  exact Fin.pure hs (by simp [Instr.index, Sem.run_bind, run_underlying hu, asIntOf, hi, run_sz hn, hv]) hr
theorem extract_ok {l : List AV} {i : Nat} {av : AV} {v : Value} (h : getL l i = some av) (hx : VR ι (.tup l) v) (hs : Sat N F g ι w0 w) : Fin P N F w0 (Instr.extract v i) av g g ι w := by
  rw [VR] at hx
  obtain ⟨vs, rfl, hl⟩ := hx
  rw [getL_eq] at h
  obtain ⟨v, hv, hr⟩ := (VRL_iff.1 hl).2 _ _ h
  have : vs[i]? = some v := by rw [← Array.getElem?_toList]; exact hv
  exact Fin.pure hs (by simp [Instr.extract, this]) hr
/-! ### build -/
theorem fold_sets : ∀ (vs : List Value) (j : Nat) (c : Array Value) (o : Nat),
    ((vs.zipIdx j).foldl (fun (cs : Array Value) (x : Value × Nat) => cs.setIfInBounds (o + x.2) x.1) c).toList = (vs.zipIdx j).foldl (fun (cs : List Value) (x : Value × Nat) => cs.set (o + x.2) x.1) c.toList := by
  intro vs
  induction vs with
  | nil => intro j c o; rfl
  | cons v vs ih => intro j c o; simp only [List.zipIdx_cons, List.foldl_cons]; rw [ih]; simp
theorem setsL_fold {ι : Io} : ∀ (cs : List AV) (vs us : List Value) (l l' : List AV) (o j : Nat), VRL ι l us → VRL ι cs vs → setsL l (o + j) cs = some l' → VRL ι l' ((vs.zipIdx j).foldl (fun c (x : Value × Nat) => c.set (o + x.2) x.1) us) := by
  intro cs
  induction cs with
  | nil => intro vs us l l' o j h k hs; rw [VRL] at k; subst k; simp [setsL] at hs; subst hs; exact h
  | cons a cs ih =>
    intro vs us l l' o j h k hs
    rw [VRL] at k
    obtain ⟨v, ws, rfl, h1, h2⟩ := k
    simp only [setsL] at hs
    split at hs
    · rename_i m hm
      obtain ⟨h3, rfl⟩ := setL_some _ _ _ _ hm
      rw [List.zipIdx_cons, List.foldl_cons]
      refine ih ws _ _ _ o (j + 1) ?_ h2 hs
      obtain ⟨h4, h5⟩ := VRL_iff.1 h
      refine VRL_iff.2 ⟨by simp [h4], fun i b hb => ?_⟩
      rw [List.getElem?_set] at hb ⊢
      split at hb
      · rename_i e
        subst e
        rw [if_pos rfl, if_pos (by omega)]
        cases hb
        exact ⟨v, rfl, h1⟩
      · rename_i e
        rw [if_neg e]
        exact h5 i b hb
    · cases hs
/-- Parts and their values. -/
def PR (ι : Io) : List (Nat × AV) → List (Nat × Value) → Prop
  | [], ps => ps = []
  | (i, a) :: l, ps => ∃ v us, ps = (i, v) :: us ∧ VR ι a v ∧ PR ι l us
theorem fill_run {place : Nat → Option (Nat × Nat)} : ∀ {parts : List (Nat × AV)} {ps : List (Nat × Value)} {cells l : List AV} {cs : Array Value}, fillA place cells parts = some l → VRL ι cells cs.toList → PR ι parts ps →
    ∃ cs', Instr.fill place cs ps = some cs' ∧ VRL ι l cs'.toList
  | [], ps, cells, l, cs, h, hc, hp => by
    rw [PR] at hp
    subst hp
    simp [fillA] at h
    subst h
    exact ⟨cs, rfl, hc⟩
  | (i, a) :: rest, ps, cells, l, cs, h, hc, hp => by
    rw [PR] at hp
    obtain ⟨v, us, rfl, hr, h2⟩ := hp
    simp only [fillA] at h
    split at h
    · cases h
    · rename_i off size hpl
      split at h
      · rename_i hlen hfit
        split at h
        · rename_i cells' hset
          have hv := VR_cells hr
          have hvl := (VRL_iff.1 hv).1
          have hcl := (VRL_iff.1 hc).1
          rw [Array.length_toList] at hcl hvl
          have hsize : v.cells.size = size := by rw [hvl]; exact beq_tt hlen
          have hfit' := Nat.le_of_ble_eq_true hfit
          have hnew := setsL_fold a.cells v.cells.toList cs.toList cells cells' off 0 hc hv (by simpa using hset)
          have e : (v.cells.zipIdx.foldl (fun cs (x : Value × Nat) => cs.setIfInBounds (off + x.2) x.1) cs).toList = (v.cells.toList.zipIdx 0).foldl (fun (c : List Value) (x : Value × Nat) => c.set (off + x.2) x.1) cs.toList := by
            rw [← Array.foldl_toList, Array.toList_zipIdx, fold_sets]
          rw [← e] at hnew
          obtain ⟨cs', h3, h4⟩ := fill_run h hnew h2
          refine ⟨cs', ?_, h4⟩
          have h5 : ¬ (v.cells.size ≠ size) := by omega
          have h6 : ¬ (off + v.cells.size > cs.size) := by omega
          simp only [Instr.fill, hpl]
          rw [if_neg (by simp; omega)]
          exact h3
        · cases h
      · cases h
theorem PR_parts {tm : T AV} {ρ : Operand → Value} : ∀ (l : List (Nat × Operand)), (∀ x ∈ l.map (·.2), VR ι (opnd tm x) (ρ x)) → PR ι (partsA tm l) (l.map fun (i, x) => (i, ρ x))
  | [], _ => by rw [partsA, PR]; rfl
  | (i, x) :: l, h => by rw [partsA, PR]; exact ⟨_, _, rfl, h x (by simp), PR_parts l fun y hy => h y (by simp at hy ⊢; exact .inr hy)⟩
theorem places_run : ∀ {fs : List Field} {pl : List (Nat × Nat)}, placesA P fs = some pl → ∀ w, (fs.mapM fun f => do pure (f.offset, ← sizeOf f.type) : Sem (List (Nat × Nat))).run P w = .ok pl w
  | [], pl, h, w => by simp [placesA] at h; subst h; rfl
  | f :: fs, pl, h, w => by
    simp only [placesA] at h
    split at h
    · rename_i n l hn hl
      cases h
      have ih := places_run hl w
      rw [List.mapM_cons]
      simp only [Sem.run_bind, run_sz hn w, Result.andThen_ok, Sem.run_pure, ih]
    · cases h
theorem build_ok {t : TypeId} {parts : Array (Nat × Operand)} {tm : T AV} {ρ : Operand → Value} {av : AV} (h : evBuild P t (partsA tm parts.toList) = some av) (hρ : ∀ x ∈ parts.toList.map (·.2), VR ι (opnd tm x) (ρ x)) (hs : Sat N F g ι w0 w) :
    Fin P N F w0 (Instr.build t (parts.map fun (i, x) => (i, ρ x))) av g g ι w := by
  have hps := PR_parts parts.toList hρ
  have eps : (parts.map fun (x : Nat × Operand) => (x.1, ρ x.2)).toList = parts.toList.map fun (i, x) => (i, ρ x) := by simp
  unfold evBuild at h
  split at h
  · rename_i zero fields hz hu
    split at h
    · rename_i pl hpl
      split at h
      · rename_i cells hc
        cases h
        obtain ⟨z, i, hi, hz2, hzr, rfl⟩ := run_zero hz w
        obtain ⟨cs', h1, h2⟩ := fill_run hc (VRL_mapV z.cells.toList) hps
        refine Fin.pure hs (v := .agg cs') ?_ (by have := VR_mkAgg h2; simpa using this)
        have hpr := places_run hpl w
        have hmap : (fields.mapM fun f => do pure (f.offset, ← sizeOf f.type) : Sem (Array (Nat × Nat))).run P w = .ok pl.toArray w := by
          have e : fields = fields.toList.toArray := rfl
          rw [e, List.mapM_toArray, map_eq_pure_bind]
          simp only [Sem.run_bind, hpr, Result.andThen_ok, Function.comp_apply, Sem.run_pure]
        have efun : (fun i => pl.toArray[i]?) = fun i => getL pl i := by funext i; rw [getL_eq]; simp
        simp only [Instr.build, Sem.run_bind, hzr, Result.andThen_ok, run_underlying hu, hmap, eps, efun, h1]
        rfl
      · cases h
    · cases h
  · rename_i zero n elem hz hu
    split at h
    · rename_i size hn
      split at h
      · rename_i cells hc
        cases h
        obtain ⟨z, i, hi, hz2, hzr, rfl⟩ := run_zero hz w
        obtain ⟨cs', h1, h2⟩ := fill_run hc (VRL_mapV z.cells.toList) hps
        refine Fin.pure hs (v := .agg cs') ?_ (by have := VR_mkAgg h2; simpa using this)
        simp only [Instr.build, Sem.run_bind, hzr, Result.andThen_ok, run_underlying hu, run_sz hn, eps, h1]
        rfl
      · cases h
    · cases h
  · cases h
end
end Go.Proofs.Ytoifejinppjeeaa.Eng
namespace Go.Proofs.Ytoifejinppjeeaa.Eng
open Go Go.RowKit
set_option linter.unusedVariables false
set_option linter.unusedSimpArgs false
theorem made_flat (zs : List Value) : ∀ (n : Nat), (List.range (n * zs.length)).map (fun i => zs.toArray[i % zs.length]!) = (List.replicate n zs).flatten := by
  intro n
  induction n with
  | zero => simp
  | succ n ih =>
    rw [Nat.succ_mul, Nat.add_comm, List.range_add, List.map_append, List.replicate_succ, List.flatten_cons, ← ih, List.map_map]
    congr 1
    · apply List.ext_getElem?
      intro i
      by_cases h : i < zs.length
      · simp [h, Nat.mod_eq_of_lt h]
      · simp [h]
    · apply List.map_congr_left
      intro i _
      simp
theorem madeCells_flat (z : Array Value) (n : Nat) : (madeCells z (n * z.size)).toList = (List.replicate n z.toList).flatten := by
  rw [← made_flat]
  simp [madeCells]
theorem mapV_flat (zs : List Value) : ∀ n : Nat, (List.replicate n (mapV zs)).flatten = mapV (List.replicate n zs).flatten := by
  intro n
  induction n with
  | zero => rfl
  | succ n ih => rw [List.replicate_succ, List.flatten_cons, ih, List.replicate_succ, List.flatten_cons, mapV_eq, mapV_eq, mapV_eq, List.map_append]
section
variable {P : Program} {N : Nat} {F : Nat → Prop} {g g' : G} {ι : Io} {w0 w : World}
theorem row_ok {elem : TypeId} {n size : Nat} {cells : List AV} (h : evRow P elem n = some (cells, size)) : ∃ z i, P.info? elem = some i ∧ i.zero = some z ∧ i.size = size ∧ z.cells.size = size ∧ szOf P elem = some size ∧ VRL ι cells (madeCells z.cells (n * size)).toList := by
  unfold evRow at h
  split at h
  · rename_i s zero hn hz
    split at h
    · rename_i hl
      split at h
      · rename_i cs hr
        cases h
        obtain ⟨z, i, hi, hz2, _, rfl⟩ := run_zero hz default
        have hs : i.size = size := by
          unfold szOf at hn
          simpa [hi] using hn
        have hzs : z.cells.size = size := by
          have := beq_tt hl
          rw [mapV_eq, List.length_map, Array.length_toList] at this
          exact this
        refine ⟨z, i, hi, hz2, hs, hzs, hn, ?_⟩
        rw [repL_some _ _ _ hr, mapV_flat, ← hzs, madeCells_flat]
        exact VRL_mapV _
      · cases h
    · cases h
  · cases h
theorem buildSlice_ok {t : TypeId} {len : Nat} {parts : Array (Nat × Operand)} {tm : T AV} {ρ : Operand → Value} {av : AV} (h : evBuildSlice P t len (partsA tm parts.toList) g = some (.val av g')) (hρ : ∀ x ∈ parts.toList.map (·.2), VR ι (opnd tm x) (ρ x)) (hN : g'.n ≤ N) (hF : FOK F g') (hs : Sat N F g ι w0 w) :
    Fin P N F w0 (Instr.buildSlice t len (parts.map fun (i, x) => (i, ρ x))) av g g' ι w := by
  have hps := PR_parts parts.toList hρ
  have eps : (parts.map fun (x : Nat × Operand) => (x.1, ρ x.2)).toList = parts.toList.map fun (i, x) => (i, ρ x) := by simp
  unfold evBuildSlice at h
  split at h
  · rename_i elem hu
    split at h
    · rename_i cells size hrow
      split at h
      · rename_i hle
        split at h
        · rename_i cells' hfill
          split at h
          · rename_i k g1 hnew
            cases h
            obtain ⟨z, i, hi, hz, his, hzs, hn, hv⟩ := row_ok (ι := ι) hrow
            obtain ⟨cs', h1, h2⟩ := fill_run (cs := madeCells z.cells (len * size)) hfill hv hps
            obtain ⟨ι', st, sat, hk, hle'⟩ := alloc_ok (T := elem) hnew hN hF hs h2
            refine ⟨ι', .slice (some ⟨w.heap.size, 0, none⟩) len len, _, ?_, by
              rw [VR]
              exact ⟨_, _, rfl, Nat.le_refl _, fun c' e => by cases e; rfl, .inr ⟨_, hk, fun e => by cases e⟩⟩, st, sat⟩
            have hle2 : ¬ (len * size > 2 ^ 24) := by have := Nat.le_of_ble_eq_true hle; omega
            have harr : (Array.range (len * size)).map (fun i => (if len * size = 0 then (#[] : Array Value) else z.cells)[i % (if len * size = 0 then (#[] : Array Value) else z.cells).size]!) = madeCells z.cells (len * size) := by
              by_cases e : len * size = 0
              · rw [e]; simp [madeCells]
              · rw [if_neg e]; rfl
            have hzr : (zeroValue elem).run P w = .ok z w := by simp [zeroValue, typeInfo, hi, hz]
            by_cases e : len * size = 0
            · have h1' : Instr.fill (fun i => some (i * size, size)) #[] (parts.toList.map fun (i, x) => (i, ρ x)) = some cs' := by rw [← h1, e]; simp [madeCells, Array.range_zero']
              simp only [Instr.buildSlice, Sem.run_bind, run_underlying hu, Result.andThen_ok, run_sz hn, if_neg hle2, e, if_true, Sem.run_pure, eps]
              simp only [Array.range_zero', Array.map_empty, h1', newRow, Sem.run_bind, Sem.run_pure, Result.andThen_ok]
              simp
            · simp only [Instr.buildSlice, Sem.run_bind, run_underlying hu, Result.andThen_ok, run_sz hn, if_neg hle2, if_neg e, hzr, Sem.run_pure, eps]
              have h1' := h1
              unfold madeCells at h1'
              simp only [h1', newRow, Sem.run_bind, Sem.run_pure, Result.andThen_ok]
              simp
          · cases h
        · cases h
      · cases h
    · cases h
  · cases h
theorem zero_row {ty : Nat} {ex : Bool} {z : Value} {size n : Nat} (hz : z.cells.size = size) : VRL ι (Row.cells ty ex (n * size) (mapV z.cells.toList) .nil).toL (madeCells z.cells (n * size)).toList := by
  have e : (Row.cells ty ex (n * size) (mapV z.cells.toList) .nil).toL = mapV (madeCells z.cells (n * size)).toList := by
    apply List.ext_getElem?
    intro i
    by_cases hi : i < n * size
    · have hs : 0 < size := by
        rcases Nat.eq_zero_or_pos size with e | e
        · rw [e, Nat.mul_zero] at hi; omega
        · exact e
      have hm : i % size < z.cells.size := by rw [hz]; exact Nat.mod_lt _ hs
      have hlen : (mapV z.cells.toList).length = size := by rw [mapV_eq, List.length_map, Array.length_toList, hz]
      have hc : cellAt (mapV z.cells.toList) .nil i = .v (z.cells[i % size]'hm) := by
        unfold cellAt
        rw [T.get_nil]
        dsimp only
        have e : Nat.mod i (mapV z.cells.toList).length = i % size := by rw [hlen]; rfl
        rw [getL_eq, e, mapV_eq, List.getElem?_map, Array.getElem?_toList, Array.getElem?_eq_getElem hm]
        rfl
      rw [toL_get hi, hc, mapV_eq, List.getElem?_map]
      simp only [madeCells, Array.toList_map, Array.toList_range, List.getElem?_map, List.getElem?_range hi, Option.map_some]
      have e2 : z.cells[i % z.cells.size]! = z.cells[i % size]'hm := by
        rw [hz]
        exact getElem!_pos z.cells (i % size) hm
      rw [e2]
    · rw [toL_no (by omega), List.getElem?_eq_none (by rw [mapV_eq, List.length_map, Array.length_toList]; simp [madeCells]; omega)]
  rw [e]
  exact VRL_mapV _
theorem makeSlice_ok {t : TypeId} {l c av : AV} {vl vc : Value} (h : evMakeSlice P t l c g = some (.val av g')) (hl : VR ι l vl) (hc : VR ι c vc) (hN : g'.n ≤ N) (hF : FOK F g') (hs : Sat N F g ι w0 w) :
    Fin P N F w0 (Instr.makeSlice t vl vc) av g g' ι w := by
  unfold evMakeSlice at h
  split at h
  · rename_i elem kl l kc c hu
    rw [VR] at hl
    rw [VR] at hc
    subst hl
    subst hc
    split at h
    · rename_i i hlc hcm hi
      split at h
      · rename_i hby
        split at h
        · rename_i size zero hn hz0
          split at h
          · rename_i k g1 hzl hnew
            cases h
            obtain ⟨z, i', hi', hz, _, rfl⟩ := run_zero hz0 default
            rw [hi] at hi'
            cases hi'
            have his : i.size = size := by
              unfold szOf at hn
              simpa [hi] using hn
            have hzs : z.cells.size = size := by
              have := beq_tt hzl
              rw [mapV_eq, List.length_map, Array.length_toList] at this
              exact this
            have hv := zero_row (ty := elem) (ex := true) (ι := ι) (n := c) hzs
            have hlc' := Nat.le_of_ble_eq_true hlc
            have hcm' := Nat.le_of_ble_eq_true hcm
            have hby' := Nat.le_of_ble_eq_true hby
            have hb : i.bytes * c ≤ 1024 * 1048576 := Nat.mul_le_mul hby' hcm'
            have hr := run_make (P := P) w t elem i z hu hi hz kl kc (Int.ofNat l) (Int.ofNat c) (by simp) (by simpa using hlc') (by
              have : ((i.bytes * c : Nat) : Int) ≤ 281474976710656 := by omega
              rwa [Int.natCast_mul] at this) (by simp; omega)
            simp only [Int.ofNat_eq_natCast, Int.toNat_natCast, his] at hr
            obtain ⟨ι', st, sat, hk, hle'⟩ := alloc_okR (T := elem) hnew hN hF hs hv
            refine ⟨ι', .slice (some ⟨w.heap.size, 0, none⟩) l c, _, hr, by
              rw [VR]
              exact ⟨_, _, rfl, hlc', fun c' e => by cases e; rfl, .inr ⟨_, hk, fun e => by cases e⟩⟩, ?_, ?_⟩
            · simpa using st
            · simpa using sat
          · cases h
        · cases h
      · cases h
    · cases h
  · cases h
/-! ### A slice's cells -/
theorem cell_heap {w W : World} (h : W.heap = w.heap) (a : Addr) : W.cell? a = w.cell? a := by unfold World.cell?; rw [h]
theorem cellsOf_ok {size n : Nat} {a : AV} {cs : List AV} {x : Value} (h : cellsOf size a n g = some (cs, g')) (hx : VR ι a x) (hF : FOK F g') (hs : Sat N F g ι w0 w) :
    ∃ vs : List Value, VRL ι cs vs ∧ vs.length = n * size ∧ (∀ W : World, W.heap = w.heap → (Builtin.firstCells size n x).run P W = .ok vs.toArray W) ∧ Step g g' ι ι w w ∧ Sat N F g' ι w0 w ∧ g'.H = g.H ∧ g'.n = g.n := by
  unfold cellsOf at h
  split at h
  · rename_i k off len cap sz
    split at h
    · rename_i hnl hsz
      obtain rfl : sz = size := beq_tt hsz
      split at h
      · rename_i l g1 hr
        split at h
        · rename_i cs' hc
          cases h
          rw [VR] at hx
          obtain ⟨b, c, rfl, hlc, hcap, hk⟩ := hx
          obtain ⟨h1, ⟨b', m, h2, h3⟩, st, sat, e1, e2⟩ := read_ok hr hF hs
          obtain rfl : b' = b := by
            rcases hk with hk | ⟨m', hk, _⟩
            · rw [h2] at hk; cases hk
            · rw [h2] at hk; cases hk; rfl
          obtain ⟨vs, hv, hl, hrg⟩ := h3.range (rowSlice_ok hc)
          refine ⟨vs, hv, hl, fun W hW => run_firstCells_some W sz n ⟨b', off, none⟩ len c vs hl (fun j v hj => ?_), st, sat, e1, e2⟩
          rw [cell_heap hW, Addr.add_mid]
          exact hrg j v hj
        · cases h
      · cases h
    · cases h
  · split at h
    · cases h
      rw [VR] at hx
      subst hx
      exact ⟨[], by rw [VRL], by simp, fun W _ => run_firstCells_none W _ _ _ _, Step.refl _ _ _, hs, rfl, rfl⟩
    · cases h
  · split at h
    · cases h
      rw [VR] at hx
      obtain ⟨b, c, rfl⟩ := hx
      exact ⟨[], by rw [VRL], by simp, fun W _ => run_firstCells_some W size 0 b 0 c [] (by simp) (fun j v hj => by simp at hj), Step.refl _ _ _, hs, rfl, rfl⟩
    · cases h
  · rename_i s
    split at h
    · rename_i hn hsz
      obtain rfl : size = 1 := beq_tt hsz
      cases h
      rw [VR] at hx
      subst hx
      have hn' := Nat.le_of_ble_eq_true hn
      refine ⟨_, VRL_mapV _, ?_, fun W _ => rfl, Step.refl _ _ _, hs, rfl, rfl⟩
      rw [Array.length_toList, Array.size_map, Nat.mul_one]
      show (s.extract 0 n).size = n
      rw [ByteArray.size_extract]
      omega
    · cases h
  · cases h
theorem lenOf_ok {a : AV} {m : Nat} {x : Value} (h : lenOf? a = some m) (hx : VR ι a x) (W : World) : (Builtin.lenOf x).run P W = .ok m W := by
  unfold lenOf? at h
  split at h
  · cases h
    rw [VR] at hx
    obtain ⟨b, c, rfl, _⟩ := hx
    rfl
  · cases h
    rw [VR] at hx
    subst hx
    rfl
  · cases h
    rw [VR] at hx
    obtain ⟨b, c, rfl⟩ := hx
    rfl
  · cases h
    rw [VR] at hx
    subst hx
    rfl
  · cases h
theorem src_ok {size n : Nat} {a : AV} {cs : List AV} {x : Value} {tx : TypeId} (hk : (∃ e', P.underlying tx = some (.slice e')) ∨ P.underlying tx = some .string) (hl : lenOf? a = some n) (h : cellsOf size a n g = some (cs, g')) (ho : allOne cs = true) (hx : VR ι a x) (hF : FOK F g') (hs : Sat N F g ι w0 w) :
    ∃ vs : List Value, VRL ι cs vs ∧ Src P size tx x n vs w ∧ Step g g' ι ι w w ∧ Sat N F g' ι w0 w ∧ g'.H = g.H ∧ g'.n = g.n := by
  obtain ⟨vs, h1, h2, h3, h4⟩ := cellsOf_ok (P := P) h hx hF hs
  exact ⟨vs, h1, ⟨hk, lenOf_ok hl hx, h3 w rfl, h3 w.drew rfl, h2, allOne_VRL ho h1⟩, h4⟩
/-- A new row behind a growth. -/
theorem grown_ok {k : Nat} {all : List AV} {vs : List Value} {need size cap : Nat} {z : Value} {e : TypeId} (h : g.newL e false all = some (k, g')) (hv : VRL ι all vs) (hl : vs.length = need * size) (hz : z.cells.size = size) (hc : need ≤ cap)
    (hN : g'.n ≤ N) (hF : FOK F g') (hs : Sat N F g ι w0 w) :
    ∃ ι', VR ι' (.sl k 0 need none size) (.slice (some ⟨w.heap.size, 0, none⟩) need cap) ∧ Step g g' ι ι' w (w.drew.alloc (.cells (vs.toArray ++ Builtin.zeroCells z.cells (cap - need)) e)) ∧
      Sat N F g' ι' w0 (w.drew.alloc (.cells (vs.toArray ++ Builtin.zeroCells z.cells (cap - need)) e)) := by
  have hh : (w.drew.alloc (.cells (vs.toArray ++ Builtin.zeroCells z.cells (cap - need)) e)).heap[w.heap.size]? = some (.cells (vs.toArray ++ Builtin.zeroCells z.cells (cap - need)) e) := heap_alloc_at w.drew _
  obtain ⟨ι', st, sat, hk, hle⟩ := new_ok (w' := w.drew.alloc (.cells (vs.toArray ++ Builtin.zeroCells z.cells (cap - need)) e)) h hN hF hs (BR_alloc (T := e) hv (Builtin.zeroCells z.cells (cap - need)) (0, 0) (fun _ _ => by simp) (fun e => by cases e) hh)
    (show (w.heap.push _).size = _ by simp) rfl rfl rfl (fun d hd => heap_alloc_lt w.drew _ hd)
  refine ⟨ι', ?_, st, sat⟩
  rw [VR]
  refine ⟨w.heap.size, cap, rfl, hc, (fun c' e => by cases e), .inr ⟨_, hk, fun _ => ?_⟩⟩
  rw [size_zeroCells, hl, hz, ← Nat.add_mul]
  have : need + (cap - need) = cap := by omega
  rw [this]
  omega
theorem grown_okR {k n : Nat} {p : List AV} {t : T AV} {vs : List Value} {need size cap : Nat} {z : Value} {e : TypeId} (h : g.new (.cells e false n p t) = some (k, g')) (hv : VRL ι (Row.cells e false n p t).toL vs) (hl : vs.length = need * size) (hz : z.cells.size = size) (hc : need ≤ cap)
    (hN : g'.n ≤ N) (hF : FOK F g') (hs : Sat N F g ι w0 w) :
    ∃ ι', VR ι' (.sl k 0 need none size) (.slice (some ⟨w.heap.size, 0, none⟩) need cap) ∧ Step g g' ι ι' w (w.drew.alloc (.cells (vs.toArray ++ Builtin.zeroCells z.cells (cap - need)) e)) ∧
      Sat N F g' ι' w0 (w.drew.alloc (.cells (vs.toArray ++ Builtin.zeroCells z.cells (cap - need)) e)) := by
  have hh : (w.drew.alloc (.cells (vs.toArray ++ Builtin.zeroCells z.cells (cap - need)) e)).heap[w.heap.size]? = some (.cells (vs.toArray ++ Builtin.zeroCells z.cells (cap - need)) e) := heap_alloc_at w.drew _
  obtain ⟨ι', st, sat, hk, hle⟩ := new_okX (w' := w.drew.alloc (.cells (vs.toArray ++ Builtin.zeroCells z.cells (cap - need)) e)) (m := vs.length + (Builtin.zeroCells z.cells (cap - need)).size) h hN hF hs
    (show BR ι e false (Row.cells e false n p t).toL _ w.heap.size _ from BR_alloc (T := e) hv (Builtin.zeroCells z.cells (cap - need)) (0, 0) (fun _ _ => by simp) (fun e => by cases e) hh)
    (show (w.heap.push _).size = _ by simp) rfl rfl rfl (fun d hd => heap_alloc_lt w.drew _ hd)
  refine ⟨ι', ?_, st, sat⟩
  rw [VR]
  refine ⟨w.heap.size, cap, rfl, hc, (fun c' e => by cases e), .inr ⟨_, hk, fun _ => ?_⟩⟩
  rw [size_zeroCells, hl, hz, ← Nat.add_mul]
  have : need + (cap - need) = cap := by omega
  rw [this]
  omega
/-- A row that grew. -/
theorem growRow_ok {elem size k len sz : Nat} {new : List AV} {row : Row} (h : growRow elem size k len sz new g = some (row, g')) :
    ∃ old l, g.read k = some (l, g') ∧ sz = size ∧ l.ty = elem ∧ slice? l.toL 0 (len * size) = some old ∧ cellsOf size (.sl k 0 len none sz) len g = some (old, g') ∧ (∃ m p t, row = .cells elem false m p t) ∧ row.toL = old ++ new := by
  unfold growRow at h
  split at h
  · rename_i ty ex m pat t g1 hr
    split at h
    · rename_i hsz hty hm
      split at h
      · rename_i r hra
        cases h
        obtain rfl : ty = elem := beq_tt hty
        obtain ⟨h1, h2⟩ := rowApp_ok hra
        have hm' : m = len * size := beq_tt hm
        have hsl : rowSlice (.cells ty ex m pat t) 0 (len * size) = some (cellsFrom pat t 0 (len * size)) := by
          simp only [rowSlice, Nat.zero_add]
          rw [Nat.ble_eq_true_of_le (by omega)]
        refine ⟨_, _, hr, beq_tt hsz, rfl, rowSlice_ok hsl, ?_, h1, ?_⟩
        · simp only [cellsOf, Nat.ble_eq_true_of_le (Nat.le_refl _), hsz, hr, hsl]
        · rw [h2]
          congr 1
          apply List.ext_getElem?
          intro i
          by_cases hi : i < m
          · rw [toL_get hi, cellsFrom_get _ _ _ _ _ (by omega), Nat.zero_add]
          · rw [toL_no (by omega), List.getElem?_eq_none (by rw [cellsFrom_len]; omega)]
      · cases h
    · rename_i hsz hty hm
      split at h
      · rename_i old ho
        split at h
        · rename_i all hall
          split at h
          · rename_i r hra
            cases h
            obtain rfl : ty = elem := beq_tt hty
            obtain ⟨h1, h2⟩ := rowOf_ok hra
            refine ⟨_, _, hr, beq_tt hsz, rfl, rowSlice_ok ho, ?_, h1, by rw [h2, appL_some _ _ _ hall]⟩
            simp only [cellsOf, Nat.ble_eq_true_of_le (Nat.le_refl _), hsz, hr, ho]
          · cases h
        · cases h
      · cases h
    · cases h
  · cases h
/-- A name is lost. -/
theorem kill_okW {k b m : Nat} {l : Row} {w' : World} (h : g.write k none = some g') (hs : Sat N F g ι w0 w) (h0 : g.H.get k = some l) (hk : ι k = .at_ b m)
    (hsz : w'.heap.size = w.heap.size) (hos : w'.os = w.os) (ht : w'.tape = w.tape) (hout : w'.output = w.output) (hfr : ∀ d, d ≠ b → w'.heap[d]? = w.heap[d]?) :
    ∃ ι', Step g g' ι ι' w w' ∧ Sat N F g' ι' w0 w' ∧ Le ι ι' ∧ ι' k = .dead ∧ (∀ j, j ≠ k → ι' j = ι j) ∧ g'.n = g.n ∧ Wr g' k ∧ (∀ j, g'.H.get j = if j = k then none else g.H.get j) := by
  have hkn : k < g.n := hs.dom k l h0
  obtain ⟨H, hH, e1, e2, e3, e4, e5, e6⟩ : ∃ H, T.set none fuelT g.H k = some H ∧ g'.H = H ∧ g'.n = g.n ∧ g'.thr = g.thr ∧ (∀ j ∈ g.rd, j ∈ g'.rd) ∧ (∀ j ∈ g.wr, j ∈ g'.wr) ∧ Wr g' k := by
    unfold G.write at h
    split at h
    · cases h
    · rename_i H hH
      refine ⟨H, hH, ?_⟩
      split at h
      · cases h
        exact ⟨rfl, rfl, rfl, fun j hj => by simp [hj], fun j hj => by simp [hj], .inl (by simp)⟩
      · rename_i hlt
        split at h
        · cases h
          refine ⟨rfl, rfl, rfl, fun j hj => hj, fun j hj => hj, .inr ?_⟩
          rcases Nat.lt_or_ge k g.thr with e | e
          · rw [show Nat.blt k g.thr = true by simpa [Nat.blt_eq] using e] at hlt; cases hlt
          · exact e
        · cases h
  have hget := T.set_get _ _ _ _ _ hH
  let ι' : Io := fun j => if j = k then .dead else ι j
  have hle : Le ι ι' := fun j => by
    by_cases e : j = k
    · right; right; simp [ι', e]
    · right; left; simp [ι', e]
  have st : Step g g' ι ι' w w' :=
    ⟨by omega, e3, e4, e5, hle, fun j hj => by
      by_cases e : j = k
      · right; exact ⟨by simp [ι', e], by rw [e]; exact e6⟩
      · left; simp [ι', e], fun j hj => by
      show (if j = k then _ else _) = _; rw [if_neg (by omega)], fun j d m h1 h2 _ => by omega, fun j hj hw => by
      rw [e1, hget, if_neg (fun e : j = k => hw (by rw [e]; exact e6))], fun d hd hn => hfr d (fun e => by subst e; exact hn k m hkn e6 hk), by omega, hos, ht, hout⟩
  refine ⟨ι', st, ⟨fun i j d m1 m2 h1 h2 => ?_, fun i d m1 h1 => ?_, fun i h1 h2 => ?_, fun j l' hl => ?_, fun j l' hj hl => ?_, below_step hs st⟩, hle, by simp [ι'], fun j hj => by simp [ι', hj], e2, e6, fun j => by rw [e1]; exact hget j⟩
  · by_cases a1 : i = k
    · simp [ι', a1] at h1
    · by_cases a2 : j = k
      · simp [ι', a2] at h2
      · simp [ι', a1] at h1
        simp [ι', a2] at h2
        exact hs.inj _ _ _ _ _ h1 h2
  · by_cases a1 : i = k
    · simp [ι', a1] at h1
    · simp [ι', a1] at h1
      have := hs.bnd _ _ _ h1
      omega
  · show (if i = k then _ else _) = _
    rw [if_neg (by omega)]
    exact hs.un i (by omega) h2
  · rw [e1, hget] at hl
    rw [e2]
    split at hl
    · cases hl
    · exact hs.dom j l' hl
  · rw [e1, hget] at hl
    split at hl
    · cases hl
    · rename_i hne
      obtain ⟨d, m', hd, hbr⟩ := hs.rel j l' hj hl
      exact ⟨d, m', by simp [ι', hne, hd], hbr.mono hle (hfr d fun e => hne (by subst e; exact hs.inj j k _ _ _ hd hk))⟩
theorem kill_ok {k b m : Nat} {l : Row} (h : g.write k none = some g') (hs : Sat N F g ι w0 w) (h0 : g.H.get k = some l) (hk : ι k = .at_ b m) :
    ∃ ι', Step g g' ι ι' w w ∧ Sat N F g' ι' w0 w ∧ Le ι ι' ∧ ι' k = .dead ∧ (∀ j, j ≠ k → ι' j = ι j) ∧ g'.n = g.n ∧ Wr g' k ∧ (∀ j, g'.H.get j = if j = k then none else g.H.get j) :=
  kill_okW h hs h0 hk rfl rfl rfl rfl (fun _ _ => rfl)
/-- A block goes from one name to a new one, with more cells. -/
theorem move_ok {k k' b m : Nat} {l all : Row} {g1 : G} {w' : World} (h : g.write k none = some g1) (hn : g1.new all = some (k', g')) (hN : g'.n ≤ N) (hF : FOK F g') (hs : Sat N F g ι w0 w) (h0 : g.H.get k = some l) (hk : ι k = .at_ b m)
    (hb : BX ι all w' b m) (hsz : w'.heap.size = w.heap.size) (hos : w'.os = w.os) (ht : w'.tape = w.tape) (hout : w'.output = w.output) (hfr : ∀ d, d ≠ b → w'.heap[d]? = w.heap[d]?) :
    ∃ ι', Step g g' ι ι' w w' ∧ Sat N F g' ι' w0 w' ∧ ι' k' = .at_ b m := by
  have hkn : k < g.n := hs.dom k l h0
  have hbb := hs.bnd k b m hk
  obtain ⟨ι1, st1, sat1, hle1, hd1, ho1, en1, hw1, hg1⟩ := kill_ok h hs h0 hk
  obtain ⟨H, hH, rfl, rfl⟩ : ∃ H, T.set (some all) fuelT g1.H g1.n = some H ∧ k' = g1.n ∧ g' = ⟨H, g1.n + 1, g1.thr, g1.rd, g1.wr⟩ := by
    unfold G.new at hn
    split at hn
    · cases hn
    · rename_i H hH
      rw [forceNat_eq] at hn
      cases hn
      exact ⟨H, hH, rfl, rfl⟩
  have hget := T.set_get _ _ _ _ _ hH
  have hun : ι1 g1.n = .un := sat1.un g1.n (Nat.le_refl _) (by simp at hN; omega)
  let ι' : Io := fun j => if j = g1.n then .at_ b m else ι1 j
  have hle2 : Le ι1 ι' := fun j => by
    by_cases e : j = g1.n
    · left; rw [e]; exact hun
    · right; left; simp [ι', e]
  have hle : Le ι ι' := hle1.tr hle2
  have st : Step g ⟨H, g1.n + 1, g1.thr, g1.rd, g1.wr⟩ ι ι' w w' := by
    refine ⟨by simp; omega, st1.thr, st1.rd, st1.wr, hle, fun j hj => ?_, fun j hj => ?_, fun j d m' h1 h2 h3 => .inr ⟨k, m', hw1, hkn, ?_⟩, fun j hj hw => ?_, fun d hd hno => hfr d (fun e => by subst e; exact hno k m hkn hw1 hk), by omega, hos, ht, hout⟩
    · have e : ι' j = ι1 j := by show (if j = g1.n then _ else _) = _; rw [if_neg (by omega)]
      rw [e]
      exact st1.old j hj
    · have e : ι' j = ι1 j := by show (if j = g1.n then _ else _) = _; rw [if_neg (by simp at hj; omega)]
      rw [e]
      exact st1.far j (by simp at hj; omega)
    · have e : j = g1.n := by simp at h2; omega
      subst e
      simp [ι'] at h3
      obtain ⟨rfl, rfl⟩ := h3
      exact hk
    · show H.get j = _
      rw [hget, if_neg (by omega)]
      exact st1.habs j hj hw
  refine ⟨ι', st, ⟨fun i j d m1 m2 h1 h2 => ?_, fun i d m1 h1 => ?_, fun i h1 h2 => ?_, fun j l' hl => ?_, fun j l' hj hl => ?_, below_step hs st⟩, by simp [ι']⟩
  · have key : ∀ i m1, i ≠ g1.n → ι' i = .at_ b m1 → False := fun i m1 hi he => by
      simp [ι', hi] at he
      by_cases e : i = k
      · rw [e, hd1] at he; cases he
      · rw [ho1 i e] at he
        exact e (hs.inj _ _ _ _ _ he hk)
    by_cases a1 : i = g1.n
    · by_cases a2 : j = g1.n
      · rw [a1, a2]
      · have hh := h1
        simp [ι', a1] at hh
        exact absurd (hh.1 ▸ h2) (fun h => key j m2 a2 h)
    · by_cases a2 : j = g1.n
      · have hh := h2
        simp [ι', a2] at hh
        exact absurd (hh.1 ▸ h1) (fun h => key i m1 a1 h)
      · simp [ι', a1] at h1
        simp [ι', a2] at h2
        exact sat1.inj _ _ _ _ _ h1 h2
  · by_cases a1 : i = g1.n
    · simp [ι', a1] at h1
      omega
    · simp [ι', a1] at h1
      have := sat1.bnd _ _ _ h1
      omega
  · show (if i = g1.n then _ else _) = _
    simp at h1
    rw [if_neg (by omega)]
    exact sat1.un i (by omega) h2
  · show j < g1.n + 1
    change H.get j = _ at hl
    rw [hget] at hl
    split at hl
    · omega
    · have := sat1.dom _ _ hl; omega
  · change H.get j = _ at hl
    rw [hget] at hl
    split at hl
    · rename_i e
      subst e
      cases hl
      exact ⟨b, m, by simp [ι'], hb.mono hle rfl⟩
    · rename_i hne
      obtain ⟨d, m', hd, hbr⟩ := sat1.rel j l' hj hl
      refine ⟨d, m', by show (if j = g1.n then _ else _) = _; rw [if_neg hne]; exact hd, hbr.mono hle2 (hfr d (fun e => ?_))⟩
      subst e
      by_cases e : j = k
      · rw [e, hd1] at hd; cases hd
      · rw [ho1 j e] at hd
        exact e (hs.inj _ _ _ _ _ hd hk)
end
end Go.Proofs.Ytoifejinppjeeaa.Eng
namespace Go.Proofs.Ytoifejinppjeeaa.Eng
open Go Go.RowKit
set_option linter.unusedVariables false
set_option linter.unusedSimpArgs false
theorem append_ts {ts : Array TypeId} {t t2 ty : TypeId} {args : Array Value} (h0 : ts[0]? = some t) (h1 : ts[1]? = some t2) : Builtin.append_ ts ty args = Builtin.append_ #[t, t2] ty args := by
  unfold Builtin.append_
  simp [h0, h1]
theorem copy_ts {ts : Array TypeId} {t ty ty' : TypeId} {args : Array Value} (h0 : ts[0]? = some t) : Builtin.copy_ ts ty args = Builtin.copy_ #[t] ty' args := by
  unfold Builtin.copy_
  simp [h0]
theorem FOK.read {F : Nat → Prop} {g g' : G} {k : Nat} {l : Row} (h : FOK F g') (hr : g.read k = some (l, g')) : FOK F g := by
  unfold G.read at hr
  split at hr
  · cases hr
  · split at hr
    · cases hr
    · split at hr <;> cases hr
      · exact ⟨fun j hj => h.1 j (by simp [hj]), h.2.1, h.2.2⟩
      · exact h
theorem FOK.write {F : Nat → Prop} {g g' : G} {k : Nat} {o : Option Row} (h : FOK F g') (hw : g.write k o = some g') : FOK F g := by
  unfold G.write at hw
  repeat' split at hw
  all_goals first
    | (cases hw; done)
    | (cases hw; first
        | exact h
        | exact ⟨fun j hj => h.1 j (by simp [hj]), fun j hj => h.2.1 j (by simp [hj]), h.2.2⟩)
theorem FOK.new {F : Nat → Prop} {g g' : G} {k : Nat} {l : Row} (h : FOK F g') (hw : g.new l = some (k, g')) : FOK F g := by
  unfold G.new at hw
  split at hw
  · cases hw
  · rw [forceNat_eq] at hw
    cases hw
    exact h
theorem FOK.newL {F : Nat → Prop} {g g' : G} {ty : Nat} {ex : Bool} {k : Nat} {l : List AV} (h : FOK F g') (hw : g.newL ty ex l = some (k, g')) : FOK F g := by
  obtain ⟨_, _, _, h1, _⟩ := newL_some hw
  exact h.new h1
theorem FOK.cells {F : Nat → Prop} {g g' : G} {size n : Nat} {a : AV} {cs : List AV} (h : FOK F g') (hw : cellsOf size a n g = some (cs, g')) : FOK F g := by
  unfold cellsOf at hw
  split at hw
  · split at hw
    · split at hw
      · rename_i hr
        split at hw
        · cases hw; exact h.read hr
        · cases hw
      · cases hw
    · cases hw
  · split at hw <;> cases hw
    exact h
  · split at hw <;> cases hw
    exact h
  · split at hw <;> cases hw
    exact h
  · cases hw
theorem new_n {g g' : G} {k : Nat} {l : Row} (hw : g.new l = some (k, g')) : g'.n = g.n + 1 := by
  unfold G.new at hw
  split at hw
  · cases hw
  · rw [forceNat_eq] at hw
    cases hw
    rfl
theorem FOK.grow {F : Nat → Prop} {g g' : G} {elem size k len sz : Nat} {new : List AV} {row : Row} (h : FOK F g') (hw : growRow elem size k len sz new g = some (row, g')) : FOK F g := by
  obtain ⟨_, _, hr, _⟩ := growRow_ok hw
  exact h.read hr
theorem FOK.appendTo {F : Nat → Prop} {g g' : G} {elem size m : Nat} {s av : AV} {new : List AV} (h : FOK F g') (hw : evAppendTo elem size m s new g = some (.val av g')) : FOK F g := by
  unfold evAppendTo at hw
  split at hw
  · split at hw
    · cases hw; exact h
    · split at hw
      · rename_i hn
        cases hw; exact h.newL hn
      · cases hw
  · split at hw
    · cases hw; exact h
    · split at hw
      · split at hw
        · split at hw
          · rename_i hr
            split at hw
            · split at hw
              · rename_i hwr
                cases hw
                exact (h.write hwr).read hr
              · cases hw
            · cases hw
          · cases hw
        · split at hw
          · rename_i hc
            split at hw
            · split at hw
              · rename_i hn
                cases hw
                exact (h.newL hn).cells hc
              · cases hw
            · cases hw
          · cases hw
      · split at hw
        · rename_i hc
          split at hw
          · rename_i hkl
            split at hw
            · rename_i hn
              cases hw
              exact ((h.new hn).write hkl).grow hc
            · cases hw
          · cases hw
        · cases hw
    · cases hw
  · cases hw
/-- The first cells of a block. -/
theorem BR.pre {ty : Nat} {ex : Bool} {ι : Io} {l old : List AV} {w : World} {b m n : Nat} (h : BR ι ty ex l w b m) (hs : slice? l 0 n = some old) : BR ι ty false old w b m := by
  obtain ⟨h1, h2, h3⟩ := slice?_some hs
  obtain ⟨c, T, fr, hc, hm, hr, hf, hty, hex⟩ := h
  refine ⟨c, T, fr, hc, hm, fun i a ha => ?_, hf, hty, fun e => by cases e⟩
  have hi : i < n := by rw [← h1]; exact (List.getElem?_eq_some_iff.1 ha).1
  rw [h3 i hi, Nat.zero_add] at ha
  exact hr i a ha
theorem BR.extend {ty : Nat} {ex : Bool} {ι : Io} {old new : List AV} {vs : List Value} {w : World} {b m : Nat} (h : BR ι ty ex old w b m) (hv : VRL ι new vs) (hm : old.length + vs.length ≤ m) : BR ι ty false (old ++ new) (w.setCells b old.length vs) b m := by
  have hth : w.there b old.length vs.length := h.there hm
  obtain ⟨hvl, hvr⟩ := VRL_iff.1 hv
  obtain ⟨c, T, fr, hc, hm', hr, hf, hty, hex⟩ := h
  obtain ⟨_, _, _, _, _, h6⟩ := setCells_heap w b vs old.length
  obtain ⟨c', hc', hs'⟩ := h6 c T fr hc
  refine ⟨c', T, fr, hc', by omega, fun i a ha => ?_, fun off ho => hf off (by omega), hty, fun e => by cases e⟩
  have cell' : (w.setCells b old.length vs).cell? ⟨b, i, none⟩ = c'[i]? := cell_of_row _ b i c' T fr hc'
  rw [← cell']
  by_cases hi : i < old.length
  · rw [List.getElem?_append_left hi] at ha
    obtain ⟨v, hv1, hv2⟩ := hr _ _ ha
    refine ⟨v, ?_, hv2⟩
    rw [World.cell?_setCells_out b vs old.length w ⟨b, i, none⟩ (fun _ _ => .inl hi), cell_of_row w b i c T fr hc, hv1]
  · rw [List.getElem?_append_right (by omega)] at ha
    obtain ⟨v, hv1, hv2⟩ := hvr _ _ ha
    have hj : i - old.length < vs.length := (List.getElem?_eq_some_iff.1 hv1).1
    have := World.cell?_setCells_in b vs old.length w (fun j hj => (hth j hj).1) (i - old.length) hj
    rw [show old.length + (i - old.length) = i by omega] at this
    exact ⟨v, by rw [this, ← hv1, List.getElem?_eq_getElem hj], hv2⟩
section
variable {P : Program} {N : Nat} {F : Nat → Prop} {g g' : G} {ι : Io} {w0 w : World}
theorem run_append_nil0 (t tx ty e : TypeId) (i : TypeInfo) (ht : P.underlying t = some (.slice e)) (hi : P.info? e = some i) (x : Value) (news : List Value) (hs : Src P i.size tx x 0 news w) :
    (Builtin.append_ #[t, tx] ty #[.slice none 0 0, x]).run P w = .ok (.slice none 0 0) w := by
  have h0 : news = [] := List.eq_nil_of_length_eq_zero (by rw [hs.newsLen]; simp)
  rcases hs.kind with ⟨e', hk⟩ | hk <;> simp [Builtin.append_, run_underlying ht, run_underlying hk, sizeOf, typeInfo, hi, hs.len, hs.cells, h0]
theorem appendTo_ok {t tx ty elem : TypeId} {i : TypeInfo} {z : Value} {size m : Nat} {s av : AV} {new : List AV} {vs : List Value} {x y : Value} (h : evAppendTo elem size m s new g = some (.val av g'))
    (ht : P.underlying t = some (.slice elem)) (hi : P.info? elem = some i) (hz : i.zero = some z) (his : i.size = size) (hzs : z.cells.size = size) (hby : i.bytes ≤ 1024)
    (hy : VR ι s y) (hnew : VRL ι new vs) (hsrc : Src P size tx x m vs w) (hN : g'.n ≤ N) (hF : FOK F g') (hs : Sat N F g ι w0 w) :
    Fin P N F w0 (Builtin.append_ #[t, tx] ty #[y, x]) av g g' ι w := by
  subst his
  have hbig : ∀ n c, c < n → n ≤ 1048576 → Builtin.nextslicecap n c * i.bytes ≤ 281474976710656 := fun n c hc hn => growslice_fits hc (by
    have : n * i.bytes ≤ 1048576 * 1024 := Nat.mul_le_mul hn hby
    omega)
  unfold evAppendTo at h
  split at h
  · rw [VR] at hy
    subst hy
    split at h
    · cases h
      exact Fin.pure hs (run_append_nil0 t tx ty elem i ht hi x vs hsrc) (by rw [VR])
    · rename_i m
      split at h
      · rename_i k g1 hle hn
        cases h
        have hle' := Nat.le_of_ble_eq_true hle
        have hr := run_append_grow_src (P := P) w t tx ty elem i z ht hi hz none 0 0 [] (run_firstCells_none _ _ _ _ _) x (m + 1) vs hsrc (by omega) (by omega) (by rw [Nat.zero_add]; exact hbig _ _ (by omega) hle')
        rw [Nat.zero_add, List.nil_append] at hr
        obtain ⟨ι', hv, st, sat⟩ := grown_ok (e := elem) (z := z) (cap := grownCap w (m + 1) 0 elem) hn hnew hsrc.newsLen hzs (grownCap_ge _ _ _ _) hN hF hs
        exact ⟨ι', _, _, hr, hv, st, sat⟩
      · cases h
  · rename_i k off len cap sz
    have hy0 := hy
    rw [VR] at hy
    obtain ⟨b, c, rfl, hlc, hcap, hk⟩ := hy
    split at h
    · rename_i hsz _
      cases h
      refine Fin.pure hs (v := .slice (some ⟨b, off, none⟩) len c) ?_ hy0
      have h0 : vs = [] := List.eq_nil_of_length_eq_zero (by rw [hsrc.newsLen]; simp)
      have := run_append_room_src (P := P) w t tx ty elem i ht hi b off len c x 0 vs hsrc (by omega) (fun j hj => by rw [h0] at hj; simp at hj) (fun j hj => by rw [h0] at hj; simp at hj)
      rw [this, h0]; rfl
    · rename_i m hsz hle
      obtain rfl : sz = i.size := beq_tt hsz
      have hle' := Nat.le_of_ble_eq_true hle
      split at h
      · rename_i c' 
        obtain rfl : c = c' := hcap c' rfl
        split at h
        · rename_i hroom
          have hroom' := Nat.le_of_ble_eq_true hroom
          split at h
          · rename_i l g1 hr
            split at h
            · rename_i l' hl'
              split at h
              · rename_i g2 hw
                cases h
                obtain ⟨⟨_, _, _, rfl⟩, hl'⟩ := rowSets_ok hl'
                obtain ⟨h1, ⟨b', q, h2, h3⟩, st, sat, e1, e2⟩ := read_ok hr (hF.write hw) hs
                obtain rfl : b' = b := by
                  rcases hk with hk | ⟨m', hk, _⟩
                  · rw [h2] at hk; cases hk
                  · rw [h2] at hk; cases hk; rfl
                have hb := h3.stored hnew hl'
                obtain ⟨a1, a2, a3, a4, a5, _⟩ := setCells_heap w b' vs (off + len * i.size)
                obtain ⟨st2, sat2, _⟩ := write_ok hw hF sat (by rw [e1]; exact h1) h2 hb a1 a2 a3 a4 a5
                have hth : w.there b' (off + len * i.size) vs.length := by
                  obtain ⟨q1, q2, q3⟩ := setsL_some _ _ _ _ hl'
                  have hlv := (VRL_iff.1 hnew).1
                  have hlen := h3.len
                  rcases q1 with q1 | q1
                  · rw [q1] at hlv; intro j hj; rw [hlv] at hj; simp at hj
                  · exact h3.there (by rw [hlv]; omega)
                have hrun := run_append_room_src (P := P) w t tx ty elem i ht hi b' off len c x (m + 1) vs hsrc hroom' (fun j hj => (hth j hj).1) (fun j hj => (hth j hj).2)
                refine ⟨ι, _, _, hrun, ?_, st.trans st2, sat2⟩
                rw [VR]
                exact ⟨b', c, rfl, hroom', fun c' e => by cases e; rfl, .inr ⟨q, h2, fun e => by cases e⟩⟩
              · cases h
            · cases h
          · cases h
        · rename_i hroom
          have hroom' : c < len + (m + 1) := by
            rcases Nat.lt_or_ge c (len + (m + 1)) with e | e
            · exact e
            · rw [Nat.ble_eq_true_of_le e] at hroom; cases hroom
          split at h
          · rename_i old g1 hc
            split at h
            · rename_i all hall
              split at h
              · rename_i k2 g2 hn
                cases h
                obtain ⟨us, hu, hul, hur, st, sat, e1, e2⟩ := cellsOf_ok (P := P) hc hy0 (hF.newL hn) hs
                have hr := run_append_grow_src (P := P) w t tx ty elem i z ht hi hz (some ⟨b, off, none⟩) len c us (hur w.drew rfl) x (m + 1) vs hsrc hroom' (by omega) (hbig _ _ hroom' hle')
                rw [appL_some _ _ _ hall] at hn
                obtain ⟨ι', hv, st2, sat2⟩ := grown_ok (e := elem) (z := z) (cap := grownCap w (len + (m + 1)) c elem) hn (VRL_app hu hnew) (by rw [List.length_append, hul, hsrc.newsLen, ← Nat.add_mul]) hzs (grownCap_ge _ _ _ _) hN hF sat
                exact ⟨ι', _, _, hr, hv, st.trans st2, sat2⟩
              · cases h
            · cases h
          · cases h
      · split at h
        · rename_i all g1 hoff hgr
          obtain rfl : off = 0 := beq_tt hoff
          split at h
          · rename_i g2 hkill
            split at h
            · rename_i k2 g3 hn
              cases h
              obtain ⟨old, l, hrd, _, hlty, hsl, hc, ⟨rn, rp, rt, rfl⟩, hall⟩ := growRow_ok hgr
              have hF2 := hF.new hn
              have hF1 := hF2.write hkill
              obtain ⟨us, hu, hul, hur, st, sat, e1, e2⟩ := cellsOf_ok (P := P) hc hy0 hF1 hs
              have hnlen := new_n hn
              obtain ⟨hl, q, hιk, hbr, hcq⟩ : g1.H.get k = some l ∧ ∃ q, ι k = .at_ b q ∧ BR ι elem l.ex l.toL w b q ∧ 0 + c * i.size ≤ q := by
                obtain ⟨h1, ⟨b', q, h2, h3⟩, _, _, e1', _⟩ := read_ok hrd hF1 hs
                rcases hk with hk | ⟨m', hk, hq⟩
                · rw [h2] at hk; cases hk
                · rw [h2] at hk; cases hk
                  exact ⟨by rw [e1']; exact h1, _, h2, by rw [hlty] at h3; exact h3, hq rfl⟩
              by_cases hroom : len + (m + 1) ≤ c
              · have hvl := (VRL_iff.1 hnew).1
                have hol : old.length = len * i.size := (slice?_some hsl).1
                have e3 : len * i.size + (m + 1) * i.size ≤ c * i.size := by rw [← Nat.add_mul]; exact Nat.mul_le_mul_right _ hroom
                have hvs : vs.length = (m + 1) * i.size := hsrc.newsLen
                have hth : w.there b (0 + len * i.size) vs.length := hbr.there (by rw [hvs]; omega)
                have hrun := run_append_room_src (P := P) w t tx ty elem i ht hi b 0 len c x (m + 1) vs hsrc hroom (fun j hj => (hth j hj).1) (fun j hj => (hth j hj).2)
                obtain ⟨a1, a2, a3, a4, a5, _⟩ := setCells_heap w b vs (0 + len * i.size)
                have hb := (hbr.pre hsl).extend hnew (by rw [hol, hvs]; omega)
                rw [hol, ← Nat.zero_add (len * i.size), ← hall] at hb
                obtain ⟨ι', st2, sat2, hk2⟩ := move_ok hkill hn hN hF sat hl hιk hb a1 a2 a3 a4 a5
                refine ⟨ι', _, _, hrun, ?_, st.trans st2, sat2⟩
                rw [VR]
                exact ⟨b, c, rfl, hroom, (fun c' e => by cases e), .inr ⟨q, hk2, fun _ => hcq⟩⟩
              · have hroom' : c < len + (m + 1) := by omega
                have hr := run_append_grow_src (P := P) w t tx ty elem i z ht hi hz (some ⟨b, 0, none⟩) len c us (hur w.drew rfl) x (m + 1) vs hsrc hroom' (by omega) (hbig _ _ hroom' hle')
                obtain ⟨ι1, st1, sat1, hle1, hd1, ho1, en1, hw1, hg1⟩ := kill_ok hkill sat hl hιk
                obtain ⟨ι', hv, st2, sat2⟩ := grown_okR (e := elem) (z := z) (cap := grownCap w (len + (m + 1)) c elem) hn (by rw [hall]; exact (VRL_app hu hnew).mono hle1) (by rw [List.length_append, hul, hsrc.newsLen, ← Nat.add_mul]) hzs (grownCap_ge _ _ _ _) hN hF sat1
                exact ⟨ι', _, _, hr, hv, (st.trans st1).trans st2, sat2⟩
            · cases h
          · cases h
        · cases h
    · cases h
  · cases h
theorem append_ok {ts : Array TypeId} {t tx ty : TypeId} {s x av : AV} {vs vx : Value} (h : evAppend P t s x g = some (.val av g')) (h0 : ts[0]? = some t) (h1 : ts[1]? = some tx) (hk : (∃ e', P.underlying tx = some (.slice e')) ∨ P.underlying tx = some .string)
    (hy : VR ι s vs) (hx : VR ι x vx) (hN : g'.n ≤ N) (hF : FOK F g') (hs : Sat N F g ι w0 w) : Fin P N F w0 (Builtin.append_ ts ty #[vs, vx]) av g g' ι w := by
  rw [append_ts h0 h1]
  unfold evAppend at h
  split at h
  · rename_i elem hu
    split at h
    · rename_i size m inf zero hn hm hi hz
      split at h
      · rename_i new g1 hby hzl hc
        split at h
        · rename_i hone
          obtain ⟨z, i, hi', hz2, _, rfl⟩ := run_zero hz w
          rw [hi] at hi'
          cases hi'
          have hF1 : FOK F g1 := hF.appendTo h
          obtain ⟨us, hv, hsrc, st, sat, e1, e2⟩ := src_ok hk hm hc hone hx hF1 hs
          have his : inf.size = size := by unfold szOf at hn; simpa [hi] using hn
          have hzs : z.cells.size = size := by
            have := beq_tt hzl
            rw [mapV_eq, List.length_map, Array.length_toList] at this
            exact this
          obtain ⟨ι', v, w', hr, hvr, st2, sat2⟩ := appendTo_ok (tx := tx) (ty := ty) h hu hi hz2 his hzs (Nat.le_of_ble_eq_true hby) hy hv hsrc hN hF sat
          exact ⟨ι', v, w', hr, hvr, st.trans st2, sat2⟩
        · cases h
      · cases h
    · cases h
  · cases h
theorem size_some {t : TypeId} {n : Nat} (h : szOf P t = some n) : ∃ i, P.info? t = some i ∧ i.size = n := by
  unfold szOf at h
  cases hi : P.info? t with
  | none => simp [hi] at h
  | some i => simp [hi] at h; exact ⟨i, rfl, h⟩
theorem minN_eq (m n : Nat) : minN m n = Nat.min m n := by
  unfold minN
  split
  · rename_i h; exact (Nat.min_eq_left (Nat.le_of_ble_eq_true h)).symm
  · rename_i h
    have : ¬ m ≤ n := fun e => by rw [Nat.ble_eq_true_of_le e] at h; cases h
    exact (Nat.min_eq_right (by omega)).symm
theorem copy_ok {ts : Array TypeId} {t ty : TypeId} {d s av : AV} {vd vs : Value} (h : evCopy P t d s g = some (.val av g')) (h0 : ts[0]? = some t) (hd : VR ι d vd) (hx : VR ι s vs) (hF : FOK F g') (hs : Sat N F g ι w0 w) :
    Fin P N F w0 (Builtin.copy_ ts ty #[vd, vs]) av g g' ι w := by
  unfold evCopy at h
  split at h
  · rename_i elem hu
    split at h
    · rename_i size m n hn hm hl
      split at h
      · rename_i cs g1 hc
        split at h
        · cases h
          obtain ⟨us, hv, hul, hur, st, sat, e1, e2⟩ := cellsOf_ok (P := P) hc hx hF hs
          rw [VR] at hd
          subst hd
          simp [lenOf?] at hl
          subst hl
          refine ⟨ι, _, w, ?_, by rw [VR], st, sat⟩
          rw [minN_eq] at hur
          simp [Builtin.copy_, h0, run_underlying hu, lenOf_ok hm hx, run_sz hn, minN_eq, hur w rfl]
        · rename_i k off dl cap sz
          split at h
          · rename_i l g2 hsz hr
            obtain rfl : sz = size := beq_tt hsz
            split at h
            · rename_i l' hl' hone
              split at h
              · rename_i g3 hw
                cases h
                obtain ⟨⟨_, _, _, rfl⟩, hl'⟩ := rowSets_ok hl'
                have hF2 := hF.write hw
                obtain ⟨us, hv, hul, hur, st, sat, e1, e2⟩ := cellsOf_ok (P := P) hc hx (hF2.read hr) hs
                rw [VR] at hd
                obtain ⟨b, c, rfl, hlc, hcap, hk⟩ := hd
                simp [lenOf?] at hl
                subst hl
                obtain ⟨h1, ⟨b', q, h2, h3⟩, st2, sat2, e3, e4⟩ := read_ok hr hF2 sat
                obtain rfl : b' = b := by
                  rcases hk with hk | ⟨m', hk, _⟩
                  · rw [h2] at hk; cases hk
                  · rw [h2] at hk; cases hk; rfl
                have hb := h3.stored hv hl'
                obtain ⟨a1, a2, a3, a4, a5, _⟩ := setCells_heap w b' us off
                obtain ⟨st3, sat3, _⟩ := write_ok hw hF sat2 (by rw [e3]; exact h1) h2 hb a1 a2 a3 a4 a5
                have hth : w.there b' off us.length := by
                  obtain ⟨q1, q2, q3⟩ := setsL_some _ _ _ _ hl'
                  have hlv := (VRL_iff.1 hv).1
                  have hlen := h3.len
                  rcases q1 with q1 | q1
                  · rw [q1] at hlv; intro j hj; rw [hlv] at hj; simp at hj
                  · exact h3.there (by rw [hlv]; omega)
                have hrun := run_storeCells_cells (P := P) b' off us 0 w (fun j hj => by simpa using (hth j hj).1) (fun j hj => by simpa using (hth j hj).2) (allOne_VRL hone hv)
                simp only [Nat.add_zero] at hrun
                refine ⟨ι, _, _, ?_, by rw [VR], (st.trans st2).trans st3, sat3⟩
                rw [minN_eq] at hur
                simp [Builtin.copy_, h0, run_underlying hu, lenOf_ok hm hx, run_sz hn, minN_eq, hur w rfl, hrun]
              · cases h
            · cases h
          · cases h
        · cases h
      · cases h
    · cases h
  · cases h
theorem bytesAV_some : ∀ {cs : List AV} {bs : List Int} {vs : List Value}, bytesAV cs = some bs → VRL ι cs vs → vs = bs.map (Value.int .u8)
  | [], bs, vs, h, k => by simp [bytesAV] at h; rw [VRL] at k; subst h; subst k; rfl
  | a :: cs, bs, vs, h, k => by
    rw [VRL] at k
    obtain ⟨v, us, rfl, h1, h2⟩ := k
    unfold bytesAV at h
    split at h
    · rename_i heq
      cases heq
    · rename_i n l heq
      cases heq
      split at h
      · rename_i ys hy
        cases h
        rw [VR] at h1
        rw [h1, bytesAV_some hy h2]; rfl
      · cases h
    · cases h
theorem convert_ok {src dst : TypeId} {x av : AV} {v : Value} (h : evConvert P src dst x g = some (.val av g')) (hx : VR ι x v) (hN : g'.n ≤ N) (hF : FOK F g') (hs : Sat N F g ι w0 w) : Fin P N F w0 (convert src dst v) av g g' ι w := by
  unfold evConvert at h
  split at h
  · rename_i s
    rw [VR] at hx
    subst hx
    split at h
    · rename_i e u hd hsrc
      split at h
      · rename_i he
        split at h
        · rename_i k g1 hn
          cases h
          have hr := Lib.run_convert_string_bytes w src dst e s hsrc hd he
          have hcap : s.size ≤ grownCap w s.size 0 e := grownCap_ge _ _ _ _
          have hsz : (Lib.bytesCells w e s).size = s.size + (grownCap w s.size 0 e - s.size) := by
            unfold Lib.bytesCells
            rw [Array.size_append, Array.size_map, Array.size_replicate]; rfl
          have hl : ((s.data.map fun b => Value.int .u8 b.toNat).toList).length = s.size := by rw [Array.length_toList, Array.size_map]; rfl
          have hat : (Lib.bytesWorld w e s).heap[w.heap.size]? = some (.cells (((s.data.map fun b => Value.int .u8 b.toNat).toList).toArray ++ Array.replicate (grownCap w s.size 0 e - s.size) (.int .u8 0)) e ((Lib.bytesCells w e s).size, (Lib.bytesCells w e s).size + 1)) := Lib.bytesWorld_at_new w e s
          obtain ⟨ι', st, sat, hk, hle⟩ := new_ok (w' := Lib.bytesWorld w e s) hn hN hF hs (BR_alloc (T := e) (VRL_mapV _) _ _ (fun off ho => by rw [hl, Array.size_replicate] at ho; rw [hsz]; omega) (fun e => by cases e) hat) (Lib.bytesWorld_size w e s) rfl rfl rfl (fun d hd => Lib.bytesWorld_at_old w e s d hd)
          refine ⟨ι', _, _, hr, ?_, st, sat⟩
          rw [VR]
          refine ⟨w.heap.size, _, rfl, hcap, (fun c' e => by cases e), .inr ⟨_, hk, fun _ => ?_⟩⟩
          rw [hl, Array.size_replicate]
          omega
        · cases h
      · cases h
    · exact plain_ok h hs
  · rw [VR] at hx
    subst hx
    exact plain_ok h hs
  · rename_i k off len cap sz
    split at h
    · rename_i e hsrc hd
      split at h
      · rename_i he
        split at h
        · rename_i cs g1 hc
          split at h
          · rename_i bs hb
            cases h
            obtain ⟨us, hv, hul, hur, st, sat, e1, e2⟩ := cellsOf_ok (P := P) hc hx hF hs
            have hx' := hx
            rw [VR] at hx'
            obtain ⟨b, c, rfl, _⟩ := hx'
            refine ⟨ι, .string (strOfNums bs), w, ?_, by rw [VR], st, sat⟩
            have hl := hur w rfl
            simp only [Builtin.firstCells, Nat.mul_one, bytesAV_some hb hv] at hl
            rw [run_convert_bytes_string w src dst e _ len c hsrc he hd, run_bytesToString w _ len c bs hl, foldl_push_bytes]
            simp [strOfNums, ByteArray.empty, ByteArray.emptyWithCapacity]
            rfl
          · cases h
        · cases h
      · cases h
    · cases h
  · rename_i k off
    have hx' := hx
    rw [VR] at hx'
    obtain ⟨b, rfl, hk⟩ := hx'
    split at h
    · rename_i t hsrc hd
      split at h
      · rename_i j ty ex n pat tr g1 hsz hr
        split at h
        · rename_i hlt
          cases h
          obtain ⟨h1, ⟨b', q, h2, h3⟩, st, sat, _⟩ := read_ok hr hF hs
          obtain rfl : b' = b := by
            rcases hk with hk | ⟨m', hk⟩
            · rw [h2] at hk; cases hk
            · rw [h2] at hk; cases hk; rfl
          obtain ⟨i, hi, his⟩ := size_some hsz
          have hlen := h3.len
          rw [toL_len] at hlen
          have hlt' : off < n := by simpa [Nat.blt_eq] using hlt
          exact ⟨ι, _, w, Lib.run_to_unsafe w ⟨b', off, none⟩ hsrc hd hi (by omega) h3.shape (show off < q by omega), hx, st, sat⟩
        · cases h
      · cases h
    · rename_i u hsrc hd
      split at h
      · rename_i j ty n pat tr g1 hsz hr
        split at h
        · rename_i hlies
          cases h
          obtain ⟨h1, ⟨b', q, h2, h3⟩, st, sat, _⟩ := read_ok hr hF hs
          obtain rfl : b' = b := by
            rcases hk with hk | ⟨m', hk⟩
            · rw [h2] at hk; cases hk
            · rw [h2] at hk; cases hk; rfl
          obtain ⟨i, hi, his⟩ := size_some hsz
          have hq : q = n := by
            obtain ⟨_, _, _, _, _, _, _, _, hex⟩ := h3
            rw [hex rfl, toL_len]
          exact ⟨ι, _, w, Lib.run_from_unsafe w ⟨b', off, none⟩ hsrc hd hi h3.shape (by rw [hq]; exact hlies), hx, st, sat⟩
        · cases h
      · cases h
    · cases h
  · cases h
theorem freeze_heap (w : World) (b n : Nat) : (w.freeze ⟨b, 0, none⟩ n).heap.size = w.heap.size ∧ (w.freeze ⟨b, 0, none⟩ n).os = w.os ∧ (w.freeze ⟨b, 0, none⟩ n).tape = w.tape ∧ (w.freeze ⟨b, 0, none⟩ n).output = w.output ∧
    ∀ d, d ≠ b → (w.freeze ⟨b, 0, none⟩ n).heap[d]? = w.heap[d]? := by
  unfold World.freeze
  split
  · exact ⟨rfl, rfl, rfl, rfl, fun _ _ => rfl⟩
  · exact ⟨by simp, rfl, rfl, rfl, fun d hd => by rw [Array.getElem?_modify, if_neg (fun e => hd e.symm)]⟩
theorem unsafeString_ok {pt it ty : TypeId} {k off n : Nat} {v : Value} {av : AV} (h : evUnsafeString P pt k off n g = some (.val av g')) (hx : VR ι (.ptr k off) v) (hF : FOK F g') (hs : Sat N F g ι w0 w) :
    Fin P N F w0 (Builtin.unsafeString_ #[pt, it] ty #[v, .int .i64 (.ofNat n)]) av g g' ι w := by
  unfold evUnsafeString at h
  split at h
  · rename_i e l g1 hpt hr
    split at h
    · rename_i cs hty hc1 hpos hmax hsl
      split at h
      · rename_i bs hbs
        split at h
        · rename_i hall
          split at h
          · rename_i g2 hw
            cases h
            rw [VR] at hx
            obtain ⟨b, rfl, hk⟩ := hx
            obtain ⟨h1, ⟨b', q, h2, h3⟩, st, sat, e1, _⟩ := read_ok hr (hF.write hw) hs
            obtain rfl : b' = b := by
              rcases hk with hk | ⟨m', hk⟩
              · rw [h2] at hk; cases hk
              · rw [h2] at hk; cases hk; rfl
            obtain ⟨vs, hv, hl, hrg⟩ := h3.range (rowSlice_ok hsl)
            have hlen := h3.len
            obtain ⟨_, hfit, _⟩ := slice?_some (rowSlice_ok hsl)
            have hbl : bs.length = n := by
              have := bytesAV_some hbs hv
              rw [this, List.length_map] at hl
              exact hl
            have hmax' := Nat.le_of_ble_eq_true hmax
            have hpos' : 0 < n := by simpa [Nat.blt_eq] using hpos
            have hbb : ∀ x ∈ bs, 0 ≤ x ∧ x < 256 := by
              intro x hx
              have := List.all_eq_true.1 hall x hx
              simpa using this
            obtain ⟨f1, f2, f3, f4, f5⟩ := freeze_heap w b' n
            obtain ⟨ι', st2, sat2, hle, _⟩ := kill_okW hw sat (by rw [e1]; exact h1) h2 f1 f2 f3 f4 f5
            have hl8 : (bs.map fun x => UInt8.ofNat x.toNat).length = n := by rw [List.length_map, hbl]
            have hrun := Lib.run_unsafeString_row (P := P) w pt it ty e hpt (beq_tt hc1) b' q (by rw [h3.shape, beq_tt hty]) (bs.map fun x => UInt8.ofNat x.toNat) (by
                intro e0; rw [e0] at hl8; simp at hl8; omega) (by omega) (by omega) (fun j x hj => by
                rw [Addr.add_lit, Nat.zero_add]
                rw [List.getElem?_map] at hj
                obtain ⟨y, hy, rfl⟩ := Option.map_eq_some_iff.1 hj
                have hv' := hrg j (.int .u8 y) (by rw [bytesAV_some hbs hv, List.getElem?_map, hy]; rfl)
                rw [Nat.zero_add] at hv'
                rw [hv']
                obtain ⟨y0, y1⟩ := hbb y (List.mem_of_getElem? hy)
                have e3 : ((UInt8.ofNat y.toNat).toNat : Int) = y := by
                  rw [UInt8.toNat_ofNat']
                  omega
                rw [e3])
            rw [hl8] at hrun
            exact ⟨ι', .string (strOfNums bs), _, hrun, by rw [VR], st.trans st2, sat2⟩
          · cases h
        · cases h
      · cases h
    · cases h
  · cases h
end
end Go.Proofs.Ytoifejinppjeeaa.Eng
namespace Go.Proofs.Ytoifejinppjeeaa.Eng
open Go Go.RowKit
set_option linter.unusedVariables false
set_option linter.unusedSimpArgs false
/-- No function is runtime.NumGoroutine. -/
def noNumG (P : Program) : Bool := P.funcs.toList.all fun fn => !(fn.name == "runtime.NumGoroutine")
theorem noNumG_at {P : Program} (h : noNumG P = true) {f : FuncId} {fn : Func} (hf : P.funcs[f]? = some fn) : (fn.name == "runtime.NumGoroutine") = false := by
  have := List.all_eq_true.1 h fn (List.mem_of_getElem? (by rw [Array.getElem?_toList]; exact hf))
  simpa using this
section
variable {P : Program} {N : Nat} {F : Nat → Prop} {g g' : G} {ι : Io} {w0 w : World}
def FinN (P : Program) (N : Nat) (F : Nat → Prop) (w0 : World) (s : Sem Next) (av : AV) (g g' : G) (ι : Io) (w : World) : Prop :=
  ∃ ι' v w', (s.run P w = .ok (.value v) w' ∨ (s.run P w = .ok .skip w' ∧ v = undef)) ∧ VR ι' av v ∧ Step g g' ι ι' w w' ∧ Sat N F g' ι' w0 w'
theorem fin_next {s : Sem Value} {av : AV} (h : Fin P N F w0 s av g g' ι w) : FinN P N F w0 (do pure (.value (← s))) av g g' ι w := by
  obtain ⟨ι', v, w', hr, hv, st, sat⟩ := h
  exact ⟨ι', v, w', .inl (by simp only [Sem.run_bind, hr, Result.andThen_ok, Sem.run_pure]), hv, st, sat⟩
theorem finN_pure {s : Sem Next} {av : AV} {v : Value} (hs : Sat N F g ι w0 w) (hr : s.run P w = .ok (.value v) w) (hv : VR ι av v) : FinN P N F w0 s av g g ι w :=
  ⟨ι, v, w, .inl hr, hv, Step.refl _ _ _, hs⟩
theorem opnds_VRL {tm : T AV} {ρ : Operand → Value} : ∀ l : List Operand, (∀ x ∈ l, VR ι (opnd tm x) (ρ x)) → VRL ι (opnds tm l) (l.map ρ)
  | [], _ => by rw [opnds, VRL]; rfl
  | x :: l, h => by rw [opnds, VRL]; exact ⟨_, _, rfl, h x (by simp), opnds_VRL l fun y hy => h y (by simp [hy])⟩
theorem opnds'_OVR {tm : T AV} {ρ : Operand → Value} : ∀ x : Option Operand, (∀ y ∈ x.toList, VR ι (opnd tm y) (ρ y)) → OVR ι (opnds' tm x) (x.map ρ)
  | none, _ => by rw [opnds', OVR]; rfl
  | some x, h => by rw [opnds', OVR]; exact ⟨_, rfl, h x (by simp)⟩
/-! ### Equality of the call's own -/
theorem equal_of {t : TypeId} {x y : Value} {r : Bool} (h : ∀ d, (Op.equalIn (d + 1) t x y).run P w = .ok r w) : (Op.equal t x y).run P w = .ok r w := by
  simp only [Op.equal, Op.maxDepth]
  exact h 9999
theorem ownEq_ok {a b : AV} {r : Bool} {t : TypeId} {x y : Value} (h : ownEq P t a b g = some (r, g')) (hx : VR ι a x) (hy : VR ι b y) (hF : FOK F g') (hs : Sat N F g ι w0 w) (ox oy : Operand) :
    (∃ op, (op = BinOp.eql ∨ op = BinOp.neq)) ∧ (eqGuarded .eql t ox oy x y).run P w = .ok (.bool r) w ∧ (eqGuarded .neq t ox oy x y).run P w = .ok (.bool (!r)) w ∧ Step g g' ι ι w w ∧ Sat N F g' ι w0 w := by
  refine ⟨⟨.eql, .inl rfl⟩, ?_⟩
  unfold ownEq at h
  split at h
  · rename_i e k o j p hu
    split at h
    · rename_i n l g1 hkj hn hr
      cases h
      obtain rfl : k = j := beq_tt hkj
      rw [VR] at hx
      rw [VR] at hy
      obtain ⟨b, rfl, hk⟩ := hx
      obtain ⟨c, rfl, hj⟩ := hy
      obtain ⟨h1, ⟨b', q, h2, h3⟩, st, sat, _⟩ := read_ok hr hF hs
      obtain rfl : b' = b := by
        rcases hk with hk | ⟨m', hk⟩
        · rw [h2] at hk; cases hk
        · rw [h2] at hk; cases hk; rfl
      obtain rfl : b' = c := by
        rcases hj with hk | ⟨m', hk⟩
        · rw [h2] at hk; cases hk
        · rw [h2] at hk; cases hk; rfl
      have hbeq : ((⟨b', o, none⟩ : Addr) == ⟨b', p, none⟩) = Nat.beq o p := by
        rw [Bool.eq_iff_iff]
        constructor
        · intro h
          have := eq_of_beq h
          injection this with _ h2
          rw [h2]; exact Nat.beq_refl p
        · intro h
          rw [beq_tt h]
          exact beq_self_eq_true _
      have he : (Op.equal t (.pointer (some ⟨b', o, none⟩)) (.pointer (some ⟨b', p, none⟩))).run P w = .ok (Nat.beq o p) w := equal_of fun d => by
        simp [Op.equalIn, run_underlying hu, run_sz hn, sameAddr, hbeq]
      exact ⟨by simp [eqGuarded, eqGuard, binOp, he], by simp [eqGuarded, eqGuard, binOp, he], st, sat⟩
    · cases h
  · rename_i e k o hu
    cases h
    rw [VR] at hx
    rw [VR] at hy
    obtain ⟨b, rfl, hk⟩ := hx
    subst hy
    have he : (Op.equal t (.pointer (some ⟨b, o, none⟩)) (.pointer none)).run P w = .ok false w := equal_of fun d => by
      simp [Op.equalIn, run_underlying hu]
    exact ⟨by simp [eqGuarded, eqGuard, binOp, he], by simp [eqGuarded, eqGuard, binOp, he], Step.refl _ _ _, hs⟩
  · rename_i e k o hu
    cases h
    rw [VR] at hx
    rw [VR] at hy
    obtain ⟨b, rfl, hk⟩ := hy
    subst hx
    have he : (Op.equal t (.pointer none) (.pointer (some ⟨b, o, none⟩))).run P w = .ok false w := equal_of fun d => by
      simp [Op.equalIn, run_underlying hu]
    exact ⟨by simp [eqGuarded, eqGuard, binOp, he], by simp [eqGuarded, eqGuard, binOp, he], Step.refl _ _ _, hs⟩
  · rename_i e k o len cap sz n c hu
    cases h
    rw [VR] at hx
    rw [VR] at hy
    obtain ⟨b, q, rfl, _⟩ := hx
    subst hy
    have he : (Op.equal t (.slice (some ⟨b, o, none⟩) len q) (.slice none n c)).run P w = .ok false w := equal_of fun d => by
      simp [Op.equalIn, run_underlying hu]
    exact ⟨by simp [eqGuarded, eqGuard, binOp, he], by simp [eqGuarded, eqGuard, binOp, he], Step.refl _ _ _, hs⟩
  · rename_i e n c k o len cap sz hu
    cases h
    rw [VR] at hx
    rw [VR] at hy
    obtain ⟨b, q, rfl, _⟩ := hy
    subst hx
    have he : (Op.equal t (.slice none n c) (.slice (some ⟨b, o, none⟩) len q)).run P w = .ok false w := equal_of fun d => by
      simp [Op.equalIn, run_underlying hu]
    exact ⟨by simp [eqGuarded, eqGuard, binOp, he], by simp [eqGuarded, eqGuard, binOp, he], Step.refl _ _ _, hs⟩
  · rename_i hu
    cases h
    rw [VR] at hx
    rw [VR] at hy
    obtain ⟨vs, us, rfl, _⟩ := hx
    subst hy
    have he : ∀ fn, (Op.equal t (.func fn vs us) .nilFunc).run P w = .ok false w := fun fn => equal_of fun d => by
      simp [Op.equalIn, run_underlying hu]
    exact ⟨by simp [eqGuarded, eqGuard, binOp, he], by simp [eqGuarded, eqGuard, binOp, he], Step.refl _ _ _, hs⟩
  · rename_i hu
    cases h
    rw [VR] at hx
    rw [VR] at hy
    obtain ⟨vs, us, rfl, _⟩ := hy
    subst hx
    have he : ∀ fn, (Op.equal t .nilFunc (.func fn vs us)).run P w = .ok false w := fun fn => equal_of fun d => by
      simp [Op.equalIn, run_underlying hu]
    exact ⟨by simp [eqGuarded, eqGuard, binOp, he], by simp [eqGuarded, eqGuard, binOp, he], Step.refl _ _ _, hs⟩
  · cases h
/-! ### Calls -/
theorem call_run (hng : noNumG P = true) {f : FuncId} {fn : Func} {c : Code} (hf : P.funcs[f]? = some fn) (hb : fn.body = some c) (args : Array Value) (w : World) : (callFunc f args).run P w = .ok (.enter f args) w := by
  have hn := noNumG_at hng hf
  unfold callFunc
  simp only [Sem.run_bind]
  rw [show (program : Sem Program).run P w = .ok P w from rfl]
  simp only [Result.andThen_ok, hf, hn, hb, Option.isNone_some, Bool.false_eq_true, if_false]
  rfl
theorem builtin_ok {b : Builtin} {ts : Array TypeId} {type : TypeId} {cs : Array Bool} {args : List AV} {av : AV} {vs : List Value} (h : evBuiltin P b ts type args g = some (.val av g')) (hv : VRL ι args vs) (hN : g'.n ≤ N) (hF : FOK F g') (hs : Sat N F g ι w0 w) :
    FinN P N F w0 (builtin b ts type cs vs.toArray) av g g' ι w := by
  unfold evBuiltin at h
  split at h
  · rw [VRL] at hv
    obtain ⟨v1, us, rfl, h1, hv⟩ := hv
    rw [VRL] at hv
    obtain ⟨v2, us, rfl, h2, hv⟩ := hv
    rw [VRL] at hv
    subst hv
    split at h
    · rename_i t t2 e0 e1
      split at h
      · rename_i e' hk
        exact fin_next (append_ok h e0 e1 (.inl ⟨e', hk⟩) h1 h2 hN hF hs)
      · rename_i hk
        exact fin_next (append_ok h e0 e1 (.inr hk) h1 h2 hN hF hs)
      · cases h
    · cases h
  · rw [VRL] at hv
    obtain ⟨v1, us, rfl, h1, hv⟩ := hv
    rw [VRL] at hv
    obtain ⟨v2, us, rfl, h2, hv⟩ := hv
    rw [VRL] at hv
    subst hv
    split at h
    · rename_i t e0
      exact fin_next (copy_ok h e0 h1 h2 hF hs)
    · cases h
  · rename_i k off n cap sz
    rw [VRL] at hv
    obtain ⟨v1, us, rfl, h1, hv⟩ := hv
    rw [VRL] at hv
    subst hv
    rw [VR] at h1
    obtain ⟨b, c, rfl, _⟩ := h1
    split at h
    · rename_i e hu
      cases h
      obtain ⟨t, ht, hu⟩ := Option.bind_eq_some_iff.1 hu
      exact fin_next (Fin.pure hs (v := goInt n) (by simp [Builtin.len_, ht, run_underlying hu]) (by rw [VR]))
    · cases h
  · rw [VRL] at hv
    obtain ⟨v1, us, rfl, h1, hv⟩ := hv
    rw [VRL] at hv
    subst hv
    rw [VR] at h1
    obtain ⟨b, c, rfl⟩ := h1
    split at h
    · rename_i e hu
      cases h
      obtain ⟨t, ht, hu⟩ := Option.bind_eq_some_iff.1 hu
      exact fin_next (Fin.pure hs (v := goInt 0) (by simp [Builtin.len_, ht, run_underlying hu]) (by rw [VR]))
    · cases h
  · rw [VRL] at hv
    obtain ⟨v1, us, rfl, h1, hv⟩ := hv
    rw [VRL] at hv
    subst hv
    rw [VR] at h1
    obtain ⟨b, rfl, _⟩ := h1
    split at h
    · rename_i n e hu
      cases h
      obtain ⟨t, ht, hu⟩ := Option.bind_eq_some_iff.1 hu
      exact fin_next (Fin.pure hs (v := goInt n) (by simp [Builtin.len_, ht, run_underlying hu]) (by rw [VR]))
    · rename_i arr hu
      obtain ⟨t, ht, hu⟩ := Option.bind_eq_some_iff.1 hu
      split at h
      · rename_i n e hu2
        cases h
        exact fin_next (Fin.pure hs (v := goInt n) (by simp [Builtin.len_, ht, run_underlying hu, run_underlying hu2]) (by rw [VR]))
      · cases h
    · cases h
  · rw [VRL] at hv
    obtain ⟨v1, us, rfl, h1, hv⟩ := hv
    rw [VRL] at hv
    subst hv
    rw [VR] at h1
    obtain ⟨b, c, rfl, _, hc, _⟩ := h1
    split at h
    · rename_i e hu
      cases h
      obtain ⟨t, ht, hu⟩ := Option.bind_eq_some_iff.1 hu
      obtain rfl := hc _ rfl
      exact fin_next (Fin.pure hs (v := goInt c) (by simp [Builtin.cap_, ht, run_underlying hu]) (by rw [VR]))
    · cases h
  · rename_i k off n cap sz
    cases h
    rw [VRL] at hv
    obtain ⟨v1, us, rfl, h1, hv⟩ := hv
    rw [VRL] at hv
    subst hv
    rw [VR] at h1
    obtain ⟨b, c, rfl, hc, _, hk⟩ := h1
    refine fin_next (Fin.pure hs (v := .pointer (some ⟨b, off, none⟩)) (Lib.run_unsafeSliceData_row w ts type ⟨b, off, none⟩ _ c (by omega)) ?_)
    rw [VR]
    refine ⟨b, rfl, ?_⟩
    rcases hk with hk | ⟨m, hk, _⟩
    · exact .inl hk
    · exact .inr ⟨m, hk⟩
  · cases h
    rw [VRL] at hv
    obtain ⟨v1, us, rfl, h1, hv⟩ := hv
    rw [VRL] at hv
    subst hv
    rw [VR] at h1
    subst h1
    exact fin_next (Fin.pure hs (v := .pointer none) rfl (by rw [VR]))
  · rw [VRL] at hv
    obtain ⟨v1, us, rfl, h1, hv⟩ := hv
    rw [VRL] at hv
    obtain ⟨v2, us, rfl, h2, hv⟩ := hv
    rw [VRL] at hv
    subst hv
    rw [VR] at h1 h2
    subst h1 h2
    split at h
    · rename_i pt it hts
      cases h
      obtain rfl : ts = #[pt, it] := Array.toList_inj.1 hts
      exact fin_next (Fin.pure hs (v := .string .empty) (Lib.run_unsafeString_none w pt it type none) (by rw [VR]))
    · cases h
  · rw [VRL] at hv
    obtain ⟨v1, us, rfl, h1, hv⟩ := hv
    rw [VRL] at hv
    obtain ⟨v2, us, rfl, h2, hv⟩ := hv
    rw [VRL] at hv
    subst hv
    rw [VR] at h2
    subst h2
    split at h
    · rename_i pt it hts
      obtain rfl : ts = #[pt, it] := Array.toList_inj.1 hts
      exact fin_next (unsafeString_ok h h1 hF hs)
    · cases h
  all_goals first
    | cases h; done
    | (split at h
       · rename_i us hus
         obtain rfl := allV_VRL hus hv
         exact fin_next (plain_ok h hs)
       · cases h)
theorem isSame_find {fn : Func} (h : isSame fn = true) : Extern.findNext fn = none ∧ Extern.find fn = some Extern.AbiNoEscape.same := by
  unfold isSame at h
  rw [Bool.and_eq_true, beq_iff_eq, Option.isNone_iff_eq_none] at h
  refine ⟨h.2, ?_⟩
  unfold Extern.find
  rw [h.1]
  rfl
theorem same_run (hng : noNumG P = true) {f : FuncId} {fn : Func} (hf : P.funcs[f]? = some fn) (hb : fn.body = none) (h : isSame fn = true) (v : Value) (w : World) : (callFunc f #[v]).run P w = .ok (.value v) w := by
  have hn := noNumG_at hng hf
  obtain ⟨h1, h2⟩ := isSame_find h
  unfold callFunc
  simp only [Sem.run_bind]
  rw [show (program : Sem Program).run P w = .ok P w from rfl]
  simp only [Result.andThen_ok, hf, hn, hb, Option.isNone_none, Bool.false_eq_true, if_false, if_true, h1, h2]
  rfl
theorem callee_ok (hng : noNumG P = true) {f : AV} {args : List AV} {av : AV} {x : Value} {vs : List Value} (h : evCall_ P f args g = some (.val av g')) (hx : VR ι f x) (hv : VRL ι args vs) (hs : Sat N F g ι w0 w) :
    FinN P N F w0 (do let d ← Deferred.ofValue x vs.toArray; invoke d.target d.args) av g g' ι w := by
  unfold evCall_ at h
  split at h
  · rename_i f first captured
    rw [VR] at hx
    subst hx
    split at h
    · rename_i fn hf
      split at h
      · cases h
      · split at h
        · rename_i us hus
          obtain rfl := allV_VRL hus hv
          split at h
          · rename_i v hev
            rw [forceV_eq] at h
            cases h
            refine finN_pure hs (v := v) ?_ (by rw [VR])
            have := ev?_run hev w
            simp only [Deferred.ofValue, Sem.run_bind, Sem.run_pure, Result.andThen_ok, invoke]
            exact this
          · cases h
        · rename_i hbody _ _
          split at h
          · rename_i hsm _
            cases h
            simp only [Bool.and_eq_true, Array.isEmpty_iff] at hsm
            obtain ⟨⟨e1, e2⟩, hsm⟩ := hsm
            subst e1 e2
            rw [VRL] at hv
            obtain ⟨v, us, rfl, h1, hv⟩ := hv
            rw [VRL] at hv
            subst hv
            refine finN_pure hs (v := v) ?_ h1
            simp only [Deferred.ofValue, Sem.run_bind, Sem.run_pure, Result.andThen_ok, invoke, Array.empty_append, Array.append_empty]
            exact same_run hng hf hbody hsm v w
          · cases h
    · cases h
  · split at h
    · split at h <;> cases h
    · cases h
  · cases h
  · cases h
theorem callee_call (hng : noNumG P = true) {f : AV} {args as' : List AV} {k : FuncId} {x : Value} {vs : List Value} (h : evCall_ P f args g = some (.call (.fn k) as' g')) (hx : VR ι f x) (hv : VRL ι args vs) :
    g' = g ∧ ∃ us : List Value, VRL ι as' us ∧ ∀ w, (do let d ← Deferred.ofValue x vs.toArray; invoke d.target d.args : Sem Next).run P w = .ok (.enter k us.toArray) w := by
  unfold evCall_ at h
  split at h
  · rename_i f first captured
    rw [VR] at hx
    subst hx
    split at h
    · rename_i fn hf
      split at h
      · rename_i c hb
        cases h
        refine ⟨rfl, _, VRL_app (VRL_mapV first.toList) (VRL_app hv (VRL_mapV captured.toList)), fun w => ?_⟩
        simp only [Deferred.ofValue, Sem.run_bind, Sem.run_pure, Result.andThen_ok, invoke]
        rw [call_run hng hf hb]
        congr 2
        apply Array.toList_inj.1
        simp
      · split at h
        · split at h
          · rw [forceV_eq] at h; cases h
          · cases h
        · split at h <;> cases h
    · cases h
  · rename_i f first captured
    rw [VR] at hx
    obtain ⟨xs', bs', rfl, h1, h2⟩ := hx
    split at h
    · rename_i fn hf
      split at h
      · rename_i c hb
        cases h
        refine ⟨rfl, _, VRL_app h1 (VRL_app hv h2), fun w => ?_⟩
        simp only [Deferred.ofValue, Sem.run_bind, Sem.run_pure, Result.andThen_ok, invoke]
        rw [call_run hng hf hb]
        congr 2
        apply Array.toList_inj.1
        simp
      · cases h
    · cases h
  · cases h
  · cases h
theorem callee_yield {f : AV} {args as' : List AV} {k : Nat} {x : Value} {vs : List Value} (h : evCall_ P f args g = some (.call (.yl k) as' g')) (hx : VR ι f x) (hv : VRL ι args vs) :
    g' = g ∧ ∃ (us : List Value) (b : Nat), VRL ι as' us ∧ (ι k).is b ∧ ∀ w, (do let d ← Deferred.ofValue x vs.toArray; invoke d.target d.args : Sem Next).run P w = (Instr.yield b us.toArray).run P w := by
  unfold evCall_ at h
  split at h
  · split at h
    · split at h
      · cases h
      · split at h
        · split at h
          · rw [forceV_eq] at h; cases h
          · cases h
        · split at h <;> cases h
    · cases h
  · split at h
    · split at h <;> cases h
    · cases h
  · rename_i k'
    cases h
    rw [VR] at hx
    obtain ⟨b, rfl, hb⟩ := hx
    refine ⟨rfl, vs, b, hv, hb, fun w => ?_⟩
    simp only [Deferred.ofValue, Sem.run_bind, Sem.run_pure, Result.andThen_ok, invoke, Array.empty_append]
  · cases h
end
end Go.Proofs.Ytoifejinppjeeaa.Eng
