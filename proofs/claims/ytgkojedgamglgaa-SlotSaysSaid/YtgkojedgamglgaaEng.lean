/- An evaluator of closed calls: definitions. Memory is kept by names; a call is run once, in the text's order; what Go leaves open (orders, capacities) is left open. No condition. -/
import Derived.Test.YtgkojedgamglgaaProg
import Derived.Calls
import Derived.Orders
import Derived.Below
import Derived.Laws.BytesArg
namespace Go.Proofs.Ytgkojedgamglgaa.Eng
open Go
set_option linter.unusedVariables false
noncomputable section

/-! ### A tree of values by number -/
inductive T (α : Type) where
  | nil
  | node (l : T α) (v : Option α) (r : T α)
section
variable {α : Type}
def T.get (t : T α) (k : Nat) : Option α :=
  T.rec (motive := fun _ => Nat → Option α) (fun _ => none)
    (fun _ v _ gl gr k => Bool.rec (motive := fun _ => Option α) (Bool.rec (motive := fun _ => Option α) (gr (Nat.sub (Nat.div k 2) 1)) (gl (Nat.div k 2)) (Nat.beq (Nat.mod k 2) 1)) v (Nat.beq k 0)) t k
/-- A tree of one value. -/
def T.one (v : Option α) (f k : Nat) : Option (T α) :=
  Nat.rec (motive := fun _ => Nat → Option (T α)) (fun _ => none)
    (fun _ ih k => Bool.rec (motive := fun _ => Option (T α))
      (Bool.rec (motive := fun _ => Option (T α))
        (Option.rec (motive := fun _ => Option (T α)) none (fun r => some (.node .nil none r)) (ih (Nat.sub (Nat.div k 2) 1)))
        (Option.rec (motive := fun _ => Option (T α)) none (fun l => some (.node l none .nil)) (ih (Nat.div k 2))) (Nat.beq (Nat.mod k 2) 1))
      (some (.node .nil v .nil)) (Nat.beq k 0)) f k
/-- Strict: the path is built anew before the answer is there. -/
def T.set (v : Option α) (f : Nat) (t : T α) (k : Nat) : Option (T α) :=
  T.rec (motive := fun _ => Nat → Option (T α)) (fun k => T.one v f k)
    (fun l x r sl sr k => Bool.rec (motive := fun _ => Option (T α))
      (Bool.rec (motive := fun _ => Option (T α))
        (Option.rec (motive := fun _ => Option (T α)) none (fun r => some (.node l x r)) (sr (Nat.sub (Nat.div k 2) 1)))
        (Option.rec (motive := fun _ => Option (T α)) none (fun l => some (.node l x r)) (sl (Nat.div k 2))) (Nat.beq (Nat.mod k 2) 1))
      (some (.node l v r)) (Nat.beq k 0)) t k
end
def setL {α : Type} (v : α) : List α → Nat → Option (List α)
  | [], _ => none
  | x :: xs, k => match k with
    | 0 => some (v :: xs)
    | k + 1 => match setL v xs k with
      | some ys => some (x :: ys)
      | none => none
def getL {α : Type} : List α → Nat → Option α
  | [], _ => none
  | x :: xs, k => match k with
    | 0 => some x
    | k + 1 => getL xs k
/-- The first n, strictly; none where there are fewer. -/
def takeL {α : Type} : Nat → List α → Option (List α)
  | 0, _ => some []
  | n + 1, l => match l with
    | [] => none
    | x :: xs => match takeL n xs with
      | some ys => some (x :: ys)
      | none => none
def dropL {α : Type} : Nat → List α → Option (List α)
  | 0, l => some l
  | n + 1, l => match l with
    | [] => none
    | _ :: xs => dropL n xs
def appL {α : Type} : List α → List α → Option (List α)
  | [], ys => some ys
  | x :: xs, ys => match appL xs ys with
    | some zs => some (x :: zs)
    | none => none
def repL {α : Type} (x : List α) : Nat → Option (List α)
  | 0 => some []
  | n + 1 => match repL x n with
    | some l => appL x l
    | none => none
/-- The values from place k on are replaced. -/
def setsL {α : Type} (l : List α) (k : Nat) : List α → Option (List α)
  | [] => some l
  | v :: vs => match setL v l k with
    | some l => setsL l (k + 1) vs
    | none => none

/-! ### Values -/
inductive AV where
  | v (x : Value)
  | ptr (k off : Nat)
  | sl (k off len : Nat) (cap : Option Nat) (sz : Nat)
  | agg (l : List AV)
  | tup (l : List AV)
  | fn (f : Fn) (first captured : List AV)
  /-- A slice of nothing, not nil, wherever it points. -/
  | es
  /-- The function that a range over a function hands over. -/
  | yl (k : Nat)
  /-- A loop's record: 0 ready, 1 busy, 2 done, 3 exhausted; the pending jump: 0 none, 1 return, n + 2 exit n. -/
  | lp (st jump nt : Nat) (tm : T AV) (ps : List Nat) (assign body : Code)
  /-- The block for a loop's deferred calls: open, or shut. -/
  | df (o : Bool)
  /-- A block that is no cells and is done with. -/
  | ded
/-- Strict: a value of plain parts in its last form. -/
def forceNat {β : Type} (n : Nat) (k : Nat → β) : β := match n with
  | 0 => k 0
  | m + 1 => k (m + 1)
def forceInt {β : Type} (n : Int) (k : Int → β) : β :=
  match n with
  | .ofNat m => forceNat m fun m => k (.ofNat m)
  | .negSucc m => forceNat m fun m => k (.negSucc m)
def forceV {β : Type} (v : Value) (k : Value → β) : β :=
  match v with
  | .int i n => forceInt n fun n => k (.int i n)
  | .bool b => match b with
    | true => k (.bool true)
    | false => k (.bool false)
  | v => k v
/-- A value in its outer form, and on with it. -/
def forceA {β : Type} (a : AV) (k : AV → β) : β := match a with
  | .v x => match x with
    | .int i n => k (.v (.int i n))
    | .bool b => k (.v (.bool b))
    | .agg l => k (.v (.agg l))
    | x => k (.v x)
  | .ptr b o => k (.ptr b o)
  | .sl b o n c z => k (.sl b o n c z)
  | .agg l => k (.agg l)
  | .tup l => k (.tup l)
  | a => k a
def allV : List AV → Option (List Value)
  | [] => some []
  | x :: xs => match x with
    | .v y => match allV xs with
      | some ys => some (y :: ys)
      | none => none
    | _ => none
def mapV : List Value → List AV
  | [] => []
  | x :: xs => .v x :: mapV xs
def mkAgg (l : List AV) : AV := match allV l with
  | some vs => .v (.agg vs.toArray)
  | none => .agg l
def mkTup (l : List AV) : AV := match allV l with
  | some vs => .v (.tuple vs.toArray)
  | none => .tup l
def mkFn (f : Fn) (a b : List AV) : AV := match allV a, allV b with
  | some x, some y => .v (.func f x.toArray y.toArray)
  | _, _ => .fn f a b
/-- The cells of a value. -/
def AV.cells : AV → List AV
  | .v x => mapV x.cells.toList
  | .agg l => l
  | a => [a]

/-- What a program of the model answers where it asks nothing of the world. -/
def ev? {α : Type} (P : Program) : Sem α → Option α
  | .pure a => some a
  | .program k => ev? P (k P)
  | .mark _ k => ev? P k
  | _ => none

/-! ### Memory by names -/
/-- A block: its type; whether it has no cells more; so many cells (what is not in the tree is as the pattern says, again and again); or one thing that is no cells. -/
inductive Row where
  | cells (ty : Nat) (ex : Bool) (n : Nat) (pat : List AV) (t : T AV)
  | odd (a : AV)
def cellAt (pat : List AV) (t : T AV) (i : Nat) : AV := match t.get i with
  | some a => a
  | none => match getL pat (Nat.mod i pat.length) with
    | some a => a
    | none => .v undef
def Row.toL : Row → List AV
  | .cells _ _ n pat t => (List.range n).map (cellAt pat t)
  | .odd a => [a]
def Row.ty : Row → Nat
  | .cells ty _ _ _ _ => ty
  | .odd _ => 0
def Row.ex : Row → Bool
  | .cells _ ex _ _ _ => ex
  | .odd _ => false
def cellsFrom (pat : List AV) (t : T AV) (off : Nat) : Nat → List AV
  | 0 => []
  | n + 1 => forceA (cellAt pat t off) fun a => forceNat (off + 1) fun off => a :: cellsFrom pat t off n
def rowSlice (r : Row) (off n : Nat) : Option (List AV) := match r with
  | .cells _ _ m pat t => match Nat.ble (off + n) m with
    | true => some (cellsFrom pat t off n)
    | false => none
  | .odd _ => none
def rowGet (r : Row) (i : Nat) : Option AV := match r with
  | .cells _ _ m pat t => match Nat.blt i m with
    | true => some (cellAt pat t i)
    | false => none
  | .odd _ => none
def setsT (t : T AV) (off : Nat) : List AV → Option (T AV)
  | [] => some t
  | a :: l => forceA a fun a => match T.set (some a) 64 t off with
    | some t => forceNat (off + 1) fun off => setsT t off l
    | none => none
def rowSets (r : Row) (off : Nat) (cs : List AV) : Option Row := match r with
  | .cells ty ex m pat t => match Nat.ble (off + cs.length) m, setsT t off cs with
    | true, some t => some (.cells ty ex m pat t)
    | _, _ => none
  | .odd _ => none
/-- With more cells behind them. -/
def rowApp (ex : Bool) (r : Row) (cs : List AV) : Option Row := match r with
  | .cells ty _ m pat t => match setsT t m cs with
    | some t => forceNat (m + cs.length) fun m => some (.cells ty ex m pat t)
    | none => none
  | .odd _ => none
def rowOf (ty : Nat) (ex : Bool) (l : List AV) : Option Row := rowApp ex (.cells ty true 0 [] .nil) l
structure G where
  H : T Row
  n : Nat
  thr : Nat
  rd : List Nat
  wr : List Nat
def fuelT : Nat := 64
def G.read (g : G) (k : Nat) : Option (Row × G) :=
  match g.H.get k with
  | none => none
  | some l => match l with
    | .odd _ => none
    | .cells ty ex n pat t => match Nat.blt k g.thr with
      | true => some (.cells ty ex n pat t, ⟨g.H, g.n, g.thr, k :: g.rd, g.wr⟩)
      | false => some (.cells ty ex n pat t, g)
/-- A block that holds no cells. -/
def G.readX (g : G) (k : Nat) : Option (AV × G) :=
  match g.H.get k with
  | none => none
  | some l => match l with
    | .odd a => match Nat.blt k g.thr with
      | true => some (a, ⟨g.H, g.n, g.thr, k :: g.rd, g.wr⟩)
      | false => some (a, g)
    | .cells _ _ _ _ _ => none
def G.write (g : G) (k : Nat) (o : Option Row) : Option G :=
  match T.set o fuelT g.H k with
  | none => none
  | some H => match Nat.blt k g.thr with
    | true => some ⟨H, g.n, g.thr, k :: g.rd, k :: g.wr⟩
    | false => match Nat.blt k g.n with
      | true => some ⟨H, g.n, g.thr, g.rd, g.wr⟩
      | false => none
def G.new (g : G) (l : Row) : Option (Nat × G) :=
  match T.set (some l) fuelT g.H g.n with
  | none => none
  | some H => forceNat (g.n + 1) fun n => some (g.n, ⟨H, n, g.thr, g.rd, g.wr⟩)
def G.newL (g : G) (ty : Nat) (ex : Bool) (l : List AV) : Option (Nat × G) := match rowOf ty ex l with
  | some r => g.new r
  | none => none

/-! ### One operation -/
section
variable (P : Program)
def opnd (tm : T AV) : Operand → AV
  | .tmp t => match tm.get t with
    | some a => a
    | none => .v undef
  | .const x => .v x
  | .global g => .v (.pointer (some ⟨g, 0, none⟩))
  | .func f => .v (.func (.func f) #[] #[])
def opnds (tm : T AV) : List Operand → List AV
  | [] => []
  | x :: xs => opnd tm x :: opnds tm xs
/-- What is called: a function, or a loop's next round. -/
inductive Cl where
  | fn (f : FuncId)
  | yl (k : Nat)
inductive OpR where
  | val (a : AV) (g : G)
  | call (f : Cl) (args : List AV) (g : G)
/-- A plain value, in its last form. -/
def plainR (s : Sem Value) (g : G) : Option OpR := match ev? P s with
  | some v => forceV v fun v => some (.val (.v v) g)
  | none => none
/-- The number of cells of a type; whether it has several in a row. -/
def szOf (t : TypeId) : Option Nat := (P.info? t).map (·.size)
def aggT (t : TypeId) : Option Bool := (P.underlying t).map fun d => match d with
  | .struct _ | .array _ _ => true
  | _ => false
def zeroT (t : TypeId) : Option (List AV) := match P.info? t with
  | some i => match i.zero with
    | some z => some (mapV z.cells.toList)
    | none => none
  | none => none
/-- Cells off .. off + n of a row. -/
def slice? (l : List AV) (off n : Nat) : Option (List AV) := match dropL off l with
  | some l => takeL n l
  | none => none
def part? (t : TypeId) (l : List AV) (off : Nat) : Option AV :=
  match aggT P t with
  | some true => match szOf P t with
    | some n => match slice? l off n with
      | some cs => some (mkAgg cs)
      | none => none
    | none => none
  | some false => getL l off
  | none => none
/-- A part of a block. -/
def partR (t : TypeId) (r : Row) (off : Nat) : Option AV :=
  match aggT P t with
  | some true => match szOf P t with
    | some n => match rowSlice r off n with
      | some cs => some (mkAgg cs)
      | none => none
    | none => none
  | some false => rowGet r off
  | none => none
def intOf? : AV → Option Int
  | .v (.int _ n) => some n
  | _ => none
/-- 0 ≤ n ≤ y. -/
def bound? (x : AV) (y : Nat) : Option Nat := match x with
  | .v (.int _ (.ofNat n)) => match Nat.ble n y with
    | true => some n
    | false => none
  | _ => none
def obound? (x : Option AV) (y d : Nat) : Option Nat := match x with
  | none => some d
  | some x => bound? x y
/-- The cells that the slice's first n elements (of size cells) have. -/
def cellsOf (size : Nat) (a : AV) (n : Nat) (g : G) : Option (List AV × G) := match a with
  | .sl k off len _ sz => match Nat.ble n len, Nat.beq sz size with
    | true, true => match g.read k with
      | some (l, g) => match rowSlice l off (n * size) with
        | some cs => some (cs, g)
        | none => none
      | none => none
    | _, _ => none
  | .v (.slice none _ _) => match n with
    | 0 => some ([], g)
    | _ + 1 => none
  | .es => match n with
    | 0 => some ([], g)
    | _ + 1 => none
  | .v (.string s) => match Nat.ble n s.size, Nat.beq size 1 with
    | true, true => some (mapV ((s.extract 0 n).data.map fun b => Value.int .u8 b.toNat).toList, g)
    | _, _ => none
  | _ => none
def lenOf? : AV → Option Nat
  | .sl _ _ n _ _ => some n
  | .v (.slice none n _) => some n
  | .es => some 0
  | .v (.string s) => some s.size
  | _ => none
end

/-! ### Operations -/
section
variable (P : Program)
def eqGuarded (op : BinOp) (t : TypeId) (x y : Operand) (a b : Value) : Sem Value := do eqGuard op t x y a b; binOp op t a b
/-- Equality where a side is the call's own. -/
def ownEq (t : TypeId) (a b : AV) (g : G) : Option (Bool × G) := match P.underlying t, a, b with
  | some (.pointer e), .ptr k o, .ptr j p => match Nat.beq k j, szOf P e, g.read k with
    | true, some (_ + 1), some (_, g) => some (Nat.beq o p, g)
    | _, _, _ => none
  | some (.pointer _), .ptr _ _, .v (.pointer none) => some (false, g)
  | some (.pointer _), .v (.pointer none), .ptr _ _ => some (false, g)
  | some (.slice _), .sl _ _ _ _ _, .v (.slice none _ _) => some (false, g)
  | some (.slice _), .v (.slice none _ _), .sl _ _ _ _ _ => some (false, g)
  | some (.func _ _ _), .fn _ _ _, .v .nilFunc => some (false, g)
  | some (.func _ _ _), .v .nilFunc, .fn _ _ _ => some (false, g)
  | _, _, _ => none
def oneCell : AV → Bool
  | .v (.agg _) => false
  | .v (.tuple _) => false
  | .agg _ => false
  | .tup _ => false
  | _ => true
def allOne : List AV → Bool
  | [] => true
  | a :: l => match oneCell a with
    | true => allOne l
    | false => false
def fillA (place : Nat → Option (Nat × Nat)) (cells : List AV) : List (Nat × AV) → Option (List AV)
  | [] => some cells
  | (i, a) :: rest => match place i with
    | none => none
    | some (off, size) =>
      match Nat.beq a.cells.length size, Nat.ble (off + size) cells.length with
      | true, true => match setsL cells off a.cells with
        | some cells => fillA place cells rest
        | none => none
      | _, _ => none
def partsA (tm : T AV) : List (Nat × Operand) → List (Nat × AV)
  | [] => []
  | (i, x) :: l => (i, opnd tm x) :: partsA tm l
def placesA : List Field → Option (List (Nat × Nat))
  | [] => some []
  | f :: fs => match szOf P f.type, placesA fs with
    | some n, some l => some ((f.offset, n) :: l)
    | _, _ => none
def evBuild (t : TypeId) (parts : List (Nat × AV)) : Option AV :=
  match zeroT P t, P.underlying t with
  | some zero, some (.struct fields) => match placesA P fields.toList with
    | some pl => match fillA (fun i => getL pl i) zero parts with
      | some cells => some (mkAgg cells)
      | none => none
    | none => none
  | some zero, some (.array _ elem) => match szOf P elem with
    | some size => match fillA (fun i => some (i * size, size)) zero parts with
      | some cells => some (mkAgg cells)
      | none => none
    | none => none
  | _, _ => none
/-- So many noughts of a type, in a new block. -/
def evRow (elem : TypeId) (n : Nat) : Option (List AV × Nat) :=
  match szOf P elem, zeroT P elem with
  | some size, some zero => match Nat.beq zero.length size with
    | true => match repL zero n with
      | some cells => some (cells, size)
      | none => none
    | false => none
  | _, _ => none
def evBuildSlice (t : TypeId) (len : Nat) (parts : List (Nat × AV)) (g : G) : Option OpR :=
  match P.underlying t with
  | some (.slice elem) => match evRow P elem len with
    | some (cells, size) => match Nat.ble (len * size) 16777216 with
      | true => match fillA (fun i => some (i * size, size)) cells parts with
        | some cells => match g.newL elem true cells with
          | some (k, g) => some (.val (.sl k 0 len (some len) size) g)
          | none => none
        | none => none
      | false => none
    | none => none
  | _ => none
def evMakeSlice (t : TypeId) (l c : AV) (g : G) : Option OpR :=
  match P.underlying t, l, c with
  | some (.slice elem), .v (.int _ (.ofNat l)), .v (.int _ (.ofNat c)) =>
    match Nat.ble l c, Nat.ble c 1048576, P.info? elem with
    | true, true, some i => match Nat.ble i.bytes 1024 with
      | true => match szOf P elem, zeroT P elem with
        | some size, some zero => match Nat.beq zero.length size, g.new (.cells elem true (c * size) zero .nil) with
          | true, some (k, g) => some (.val (.sl k 0 l (some c) size) g)
          | _, _ => none
        | _, _ => none
      | false => none
    | _, _, _ => none
  | _, _, _ => none
def evLoad (t : TypeId) (a : AV) (g : G) : Option OpR := match a with
  | .ptr k off => match g.read k with
    | some (l, g) => match partR P t l off with
      | some v => some (.val v g)
      | none => none
    | none => none
  | _ => none
def evStore (t : TypeId) (a x : AV) (g : G) : Option OpR := match a with
  | .ptr k off =>
    match szOf P t, g.read k with
    | some n, some (l, g) => match Nat.beq x.cells.length n, allOne x.cells with
      | true, true => match rowSets l off x.cells with
        | some l => match g.write k (some l) with
          | some g => some (.val (.v undef) g)
          | none => none
        | none => none
      | _, _ => none
    | _, _ => none
  | _ => none
def evSliceA (t : TypeId) (x : AV) (lo hi mx : Option AV) (g : G) : Option OpR :=
  match P.underlying t, x with
  | some (.array n elem), .ptr k off => match szOf P elem, obound? mx n n with
    | some size, some m => match obound? hi m n with
      | some h => match obound? lo h 0 with
        | some l => match Nat.beq m l with
          | true => some (.val (.sl k off (h - l) (some (m - l)) size) g)
          | false => some (.val (.sl k (off + l * size) (h - l) (some (m - l)) size) g)
        | none => none
      | none => none
    | _, _ => none
  | some (.slice elem), .sl k off len cap sz => match szOf P elem with
    | some size => match Nat.beq size sz with
      | true => match cap with
        | some c => match obound? mx c c with
          | some m => match obound? hi m len with
            | some h => match obound? lo h 0 with
              | some l => match Nat.beq m l with
                | true => some (.val (.sl k off (h - l) (some (m - l)) sz) g)
                | false => some (.val (.sl k (off + l * sz) (h - l) (some (m - l)) sz) g)
              | none => none
            | none => none
          | none => none
        | none => match mx with
          | some mx => match bound? mx len with
            | some m => match obound? hi m len with
              | some h => match obound? lo h 0 with
                | some l => match Nat.beq m l with
                  | true => some (.val (.sl k off (h - l) (some (m - l)) sz) g)
                  | false => some (.val (.sl k (off + l * sz) (h - l) (some (m - l)) sz) g)
                | none => none
              | none => none
            | none => none
          | none => match obound? hi len len with
            | some h => match obound? lo h 0 with
              | some l => match Nat.blt l len, Nat.beq l 0 with
                | true, _ => some (.val (.sl k (off + l * sz) (h - l) none sz) g)
                | false, true => some (.val (.sl k off h none sz) g)
                | false, false => some (.val .es g)
              | none => none
            | none => none
      | false => none
    | none => none
  | _, .v x => match lo, hi, mx with
    | none, none, none => plainR P (Instr.sliceAt t x none none none) g
    | some (.v l), none, none => plainR P (Instr.sliceAt t x (some l) none none) g
    | none, some (.v h), none => plainR P (Instr.sliceAt t x none (some h) none) g
    | some (.v l), some (.v h), none => plainR P (Instr.sliceAt t x (some l) (some h) none) g
    | some (.v l), some (.v h), some (.v m) => plainR P (Instr.sliceAt t x (some l) (some h) (some m)) g
    | none, some (.v h), some (.v m) => plainR P (Instr.sliceAt t x none (some h) (some m)) g
    | _, _, _ => none
  | _, _ => none
def evSlice (t : TypeId) (x : AV) (lo hi mx : Option AV) (g : G) : Option OpR := match hi, mx with
  | none, some _ => none
  | hi, mx => evSliceA P t x lo hi mx g
def evIndexAddr (t : TypeId) (x i : AV) : Option AV := match P.underlying t, x, i with
  | some (.array len elem), .ptr k off, .v (.int _ (.ofNat i)) => match Nat.blt i len, szOf P elem with
    | true, some size => some (.ptr k (off + i * size))
    | _, _ => none
  | some (.slice elem), .sl k off len _ sz, .v (.int _ (.ofNat i)) => match Nat.blt i len, szOf P elem with
    | true, some size => match Nat.beq size sz with
      | true => some (.ptr k (off + i * size))
      | false => none
    | _, _ => none
  | _, _, _ => none
def evFieldAddr (s : TypeId) (x : AV) (f : Nat) : Option AV := match P.underlying s, x with
  | some (.struct fields), .ptr k off => match fields[f]? with
    | some f => match szOf P f.type with
      | some (_ + 1) => some (.ptr k (off + f.offset))
      | _ => none
    | none => none
  | _, _ => none
def evField (t : TypeId) (x : AV) (f : Nat) (g : G) : Option OpR := match x with
  | .v x => plainR P (Instr.field t x f) g
  | .agg l => match P.underlying t with
    | some (.struct fields) => match fields[f]? with
      | some f => match part? P f.type l f.offset with
        | some v => some (.val v g)
        | none => none
      | none => none
    | _ => none
  | _ => none
/-- A slice's cells and some more: the block's own tree, where the slice is the whole block. -/
def growRow (elem size k len sz : Nat) (new : List AV) (g : G) : Option (Row × G) := match g.read k with
  | some (.cells ty ex m pat t, g) => match Nat.beq sz size, Nat.beq ty elem, Nat.beq m (len * size) with
    | true, true, true => match rowApp false (.cells ty ex m pat t) new with
      | some r => some (r, g)
      | none => none
    | true, true, false => match rowSlice (.cells ty ex m pat t) 0 (len * size) with
      | some old => match appL old new with
        | some all => match rowOf ty false all with
          | some r => some (r, g)
          | none => none
        | none => none
      | none => none
    | _, _, _ => none
  | _ => none
/-- New cells behind those of a slice: in a new row, or where there is room. -/
def evAppendTo (elem size m : Nat) (s : AV) (new : List AV) (g : G) : Option OpR := match s with
  | .v (.slice none 0 0) => match m with
    | 0 => some (.val (.v (.slice none 0 0)) g)
    | m + 1 => match Nat.ble (m + 1) 1048576, g.newL elem false new with
      | true, some (k, g) => some (.val (.sl k 0 (m + 1) none size) g)
      | _, _ => none
  | .sl k off len cap sz => match m, Nat.beq sz size, Nat.ble (len + m) 1048576 with
    | 0, true, _ => some (.val (.sl k off len cap sz) g)
    | m + 1, true, true => match cap with
      | some c => match Nat.ble (len + (m + 1)) c with
        | true => match g.read k with
          | some (l, g) => match rowSets l (off + len * size) new with
            | some l => match g.write k (some l) with
              | some g => some (.val (.sl k off (len + (m + 1)) (some c) sz) g)
              | none => none
            | none => none
          | none => none
        | false => match cellsOf size (.sl k off len (some c) sz) len g with
          | some (old, g) => match appL old new with
            | some all => match g.newL elem false all with
              | some (k, g) => some (.val (.sl k 0 (len + (m + 1)) none sz) g)
              | none => none
            | none => none
          | none => none
      | none => match Nat.beq off 0, growRow elem size k len sz new g with
        | true, some (all, g) => match g.write k none with
          | some g => match g.new all with
            | some (k, g) => some (.val (.sl k 0 (len + (m + 1)) none sz) g)
            | none => none
          | none => none
        | _, _ => none
    | _, _, _ => none
  | _ => none
def evAppend (t : TypeId) (s x : AV) (g : G) : Option OpR := match P.underlying t with
  | some (.slice elem) => match szOf P elem, lenOf? x, P.info? elem, zeroT P elem with
    | some size, some m, some inf, some zero => match Nat.ble inf.bytes 1024, Nat.beq zero.length size, cellsOf size x m g with
      | true, true, some (new, g) => match allOne new with
        | true => evAppendTo elem size m s new g
        | false => none
      | _, _, _ => none
    | _, _, _, _ => none
  | _ => none
def minN (m n : Nat) : Nat := match Nat.ble m n with
  | true => m
  | false => n
def evCopy (t : TypeId) (d s : AV) (g : G) : Option OpR := match P.underlying t with
  | some (.slice elem) => match szOf P elem, lenOf? s, lenOf? d with
    | some size, some m, some n => match cellsOf size s (minN m n) g with
      | some (cs, g) => match d with
        | .v (.slice none _ _) => some (.val (.v (goInt (minN m n : Nat))) g)
        | .sl k off _ _ sz => match Nat.beq sz size, g.read k with
          | true, some (l, g) => match rowSets l off cs, allOne cs with
            | some l, true => match g.write k (some l) with
              | some g => some (.val (.v (goInt (minN m n : Nat))) g)
              | none => none
            | _, _ => none
          | _, _ => none
        | _ => none
      | none => none
    | _, _, _ => none
  | _ => none
def bytesAV : List AV → Option (List Int)
  | [] => some []
  | .v (.int .u8 n) :: l => match bytesAV l with
    | some bs => some (n :: bs)
    | none => none
  | _ => none
def evConvert (src dst : TypeId) (x : AV) (g : G) : Option OpR := match x with
  | .v (.string s) => match P.underlying dst, P.underlying src with
    | some (.slice e), some _ => match P.underlying e with
      | some (.int .u8) => match g.newL e false (mapV ((s.data.map fun b => Value.int .u8 b.toNat).toList)) with
        | some (k, g) => some (.val (.sl k 0 s.size none 1) g)
        | none => none
      | _ => none
    | _, _ => plainR P (convert src dst (.string s)) g
  | .v x => plainR P (convert src dst x) g
  | .sl k off len cap sz => match P.underlying src, P.underlying dst with
    | some (.slice e), some .string => match P.underlying e with
      | some (.int .u8) => match cellsOf 1 (.sl k off len cap sz) len g with
        | some (cs, g) => match bytesAV cs with
          | some bs => some (.val (.v (.string (strOfNums bs))) g)
          | none => none
        | none => none
      | _ => none
    | _, _ => none
  | .ptr k off => match P.underlying src, P.underlying dst with
    | some (.pointer t), some .unsafePointer => match szOf P t, g.read k with
      | some (_ + 1), some (.cells _ _ n _ _, g) => match Nat.blt off n with
        | true => some (.val (.ptr k off) g)
        | false => none
      | _, _ => none
    | some .unsafePointer, some (.pointer u) => match szOf P u, g.read k with
      | some _, some (.cells ty true n _ _, g) => match liesAt P P.depth ty (n / P.cellsOf ty) off u 1 with
        | true => some (.val (.ptr k off) g)
        | false => none
      | _, _ => none
    | _, _ => none
  | _ => none
/-- unsafe.String: the bytes; the block is not written any more. -/
def evUnsafeString (pt : TypeId) (k off : Nat) (n : Nat) (g : G) : Option OpR := match off, P.underlying pt, g.read k with
  | 0, some (.pointer e), some (l, g) => match Nat.beq l.ty e, Nat.beq (P.cellsOf e) 1, Nat.blt 0 n, Nat.ble n 1048576, rowSlice l 0 n with
    | true, true, true, true, some cs => match bytesAV cs with
      | some bs => match bs.all fun b => decide (0 ≤ b) && decide (b < 256) with
        | true => match g.write k none with
          | some g => some (.val (.v (.string (strOfNums bs))) g)
          | none => none
        | false => none
      | none => none
    | _, _, _, _, _ => none
  | _, _, _ => none
def evBuiltin (b : Builtin) (ts : Array TypeId) (type : TypeId) (args : List AV) (g : G) : Option OpR := match b, args with
  | .append, [s, x] => match ts[0]?, ts[1]? with
    | some t, some t2 => match P.underlying t2 with
      | some (.slice _) => evAppend P t s x g
      | some .string => evAppend P t s x g
      | _ => none
    | _, _ => none
  | .copy, [d, s] => match ts[0]? with
    | some t => evCopy P t d s g
    | none => none
  | .len, [.sl _ _ n _ _] => match (ts[0]?).bind P.underlying with
    | some (.slice _) => some (.val (.v (goInt n)) g)
    | _ => none
  | .len, [.es] => match (ts[0]?).bind P.underlying with
    | some (.slice _) => some (.val (.v (goInt 0)) g)
    | _ => none
  | .len, [.ptr _ _] => match (ts[0]?).bind P.underlying with
    | some (.array n _) => some (.val (.v (goInt n)) g)
    | some (.pointer arr) => match P.underlying arr with
      | some (.array n _) => some (.val (.v (goInt n)) g)
      | _ => none
    | _ => none
  | .cap, [.sl _ _ _ (some n) _] => match (ts[0]?).bind P.underlying with
    | some (.slice _) => some (.val (.v (goInt n)) g)
    | _ => none
  | .unsafeSliceData, [.sl k off (_ + 1) _ _] => some (.val (.ptr k off) g)
  | .unsafeSliceData, [.v (.slice none _ _)] => some (.val (.v (.pointer none)) g)
  | .unsafeString, [.v (.pointer none), .v (.int .i64 0)] => match ts.toList with
    | [_, _] => some (.val (.v (.string .empty)) g)
    | _ => none
  | .unsafeString, [.ptr k off, .v (.int .i64 (.ofNat n))] => match ts.toList with
    | [pt, _] => evUnsafeString P pt k off n g
    | _ => none
  | .len, args => match allV args with
    | some vs => plainR P (Builtin.len_ ts type vs.toArray) g
    | none => none
  | .cap, args => match allV args with
    | some vs => plainR P (Builtin.cap_ ts type vs.toArray) g
    | none => none
  | .min, args => match allV args with
    | some vs => plainR P (Builtin.min_ ts type vs.toArray) g
    | none => none
  | .max, args => match allV args with
    | some vs => plainR P (Builtin.max_ ts type vs.toArray) g
    | none => none
  | _, _ => none
/-- The function that hands back what it is given. -/
def isSame (fn : Func) : Bool := (fn.name == "internal/abi.NoEscape") && (Extern.findNext fn).isNone
def evCall_ (f : AV) (args : List AV) (g : G) : Option OpR := match f with
  | .v (.func (.func f) first captured) => match P.funcs[f]? with
    | some fn => match fn.body with
      | some _ => some (.call (.fn f) (mapV first.toList ++ (args ++ mapV captured.toList)) g)
      | none => match allV args with
        | some vs => match ev? P (callFunc f (first ++ vs.toArray ++ captured)) with
          | some (.value v) => forceV v fun v => some (.val (.v v) g)
          | _ => none
        | none => match args, first.isEmpty && captured.isEmpty && isSame fn with
          | [a], true => some (.val a g)
          | _, _ => none
    | none => none
  | .fn (.func f) first captured => match P.funcs[f]? with
    | some fn => match fn.body with
      | some _ => some (.call (.fn f) (first ++ (args ++ captured)) g)
      | none => none
    | none => none
  | .yl k => some (.call (.yl k) args g)
  | _ => none
def opnds' (tm : T AV) : Option Operand → Option AV
  | none => none
  | some x => some (opnd tm x)
def evOp (tm : T AV) (o : Oper) (g : G) : Option OpR := match o.op with
  | .move x => some (.val (opnd tm x) g)
  | .assign x => some (.val (opnd tm x) g)
  | .pick c a b => match opnd tm c with
    | .v (.bool true) => some (.val (opnd tm a) g)
    | .v (.bool false) => some (.val (opnd tm b) g)
    | _ => none
  | .alloc t => match zeroT P t with
    | some l => match g.newL t true l with
      | some (k, g) => some (.val (.ptr k 0) g)
      | none => none
    | none => none
  | .box t x => match g.newL t true (opnd tm x).cells with
    | some (k, g) => some (.val (.ptr k 0) g)
    | none => none
  | .build t parts => match evBuild P t (partsA tm parts.toList) with
    | some v => some (.val v g)
    | none => none
  | .buildSlice t len parts => evBuildSlice P t len (partsA tm parts.toList) g
  | .load t a => evLoad P t (opnd tm a) g
  | .store t a x => evStore P t (opnd tm a) (opnd tm x) g
  | .nilCheck x => match opnd tm x with
    | .ptr k off => some (.val (.ptr k off) g)
    | .fn (.func f) a b => some (.val (.fn (.func f) a b) g)
    | .v (.pointer (some a)) => some (.val (.v (.pointer (some a))) g)
    | .v (.func (.func f) a b) => some (.val (.v (.func (.func f) a b)) g)
    | _ => none
  | .binOp op t x y _ => match opnd tm x, opnd tm y with
    | .v a, .v b => plainR P (eqGuarded op t x y a b) g
    | a, b => match op, ownEq P t a b g with
      | .eql, some (r, g) => some (.val (.v (.bool r)) g)
      | .neq, some (r, g) => some (.val (.v (.bool (!r))) g)
      | _, _ => none
  | .unOp op _ x => match opnd tm x with
    | .v a => plainR P (Op.unary op a) g
    | _ => none
  | .convert src dst x => evConvert P src dst (opnd tm x) g
  | .makeInterface t x => match opnd tm x with
    | .v a => plainR P (Instr.makeInterface t a) g
    | _ => none
  | .makeFunc fn first captured => some (.val (mkFn fn (opnds tm first.toList) (opnds tm captured.toList)) g)
  | .makeSlice t l c => evMakeSlice P t (opnd tm l) (opnd tm c) g
  | .slice t x lo hi mx => evSlice P t (opnd tm x) (opnds' tm lo) (opnds' tm hi) (opnds' tm mx) g
  | .fieldAddr s x f => match evFieldAddr P s (opnd tm x) f with
    | some v => some (.val v g)
    | none => none
  | .field t x f => evField P t (opnd tm x) f g
  | .indexAddr t x i => match evIndexAddr P t (opnd tm x) (opnd tm i) with
    | some v => some (.val v g)
    | none => none
  | .index t x i => match opnd tm x, opnd tm i with
    | .v a, .v b => plainR P (Instr.index t a b) g
    | .agg l, .v (.int _ (.ofNat i)) => match P.underlying t with
      | some (.array len elem) => match Nat.blt i len, szOf P elem with
        | true, some size => match part? P elem l (i * size) with
          | some v => some (.val v g)
          | none => none
        | _, _ => none
      | _ => none
    | _, _ => none
  | .extract x i => match opnd tm x with
    | .v a => plainR P (Instr.extract a i) g
    | .tup l => match getL l i with
      | some v => some (.val v g)
      | none => none
    | _ => none
  | .call c => match c.callee with
    | .builtin b => evBuiltin P b c.argTypes o.type (opnds tm c.args.toList) g
    | .value f => evCall_ P (opnd tm f) (opnds tm c.args.toList) g
    | .invoke _ _ => none
  | _ => none
end

/-! ### Regions, code, calls -/
/-- Strict put. -/
def putT (N : Nat) (tm : T AV) (dst : Option Tmp) (a : AV) : Option (T AV) := match dst with
  | none => some tm
  | some d => match Nat.blt d N with
    | true => forceA a fun a => T.set (some a) fuelT tm d
    | false => none
/-- Is the operation wanted? -/
def wantedA (ops : List Oper) (tm : T AV) (o : Oper) : Option Bool := match o.guard with
  | none => some true
  | some (j, want) => match getL ops j with
    | some p => match p.dst with
      | some d => match tm.get d with
        | some (.v (.bool b)) => match b, want with
          | true, true => some true
          | false, false => some true
          | _, _ => some false
        | some (.v (.tuple _)) => some false
        | _ => none
      | none => none
    | none => none
section
variable (P : Program) (call : Cl → List AV → G → Option (AV × G)) (N : Nat)
/-- One operation of a region: its value, memory behind it. -/
def evOne (ops : List Oper) (tm : T AV) (o : Oper) (g : G) : Option (AV × G) := match wantedA ops tm o with
  | some true => match evOp P tm o g with
    | some (.val a g) => some (a, g)
    | some (.call f args g) => call f args g
    | none => none
  | some false => some (.v undef, g)
  | none => none
/-- A region in the text's order. -/
def evOps (ops : List Oper) : List Oper → T AV → G → Option (T AV × G)
  | [], tm, g => some (tm, g)
  | o :: os, tm, g => match evOne P call ops tm o g with
    | some (a, g) => match putT N tm o.dst a with
      | some tm => evOps ops os tm g
      | none => none
    | none => none
def memN (k : Nat) : List Nat → Bool
  | [] => false
  | x :: xs => match Nat.beq k x with
    | true => true
    | false => memN k xs
def disjN : List Nat → List Nat → Bool
  | [], _ => true
  | x :: xs, l => match memN x l with
    | true => false
    | false => disjN xs l
/-- What an operation waits for, as bits, from those ahead of it. -/
def ancOf (anc : List Nat) : List Edge → Nat → Option Nat
  | [], m => some m
  | e :: es, m => match Region.binds .any e with
    | true => match getL anc e.on with
      | some a => ancOf anc es (Nat.lor m (Nat.lor (2 ^ e.on) a))
      | none => none
    | false => ancOf anc es m
/-- What an operation left in its log; the names that it made. -/
structure Log where
  rd : List Nat
  wr : List Nat
  lo : Nat
  hi : Nat
def outOf (lo hi : Nat) : List Nat → Bool
  | [] => true
  | k :: l => match Nat.ble lo k, Nat.blt k hi with
    | true, true => false
    | _, _ => outOf lo hi l
/-- Each operation ahead (with its log) is waited for, or has nothing to do with this one. -/
def apartB (i : Nat) (a : Nat) (rd wr : List Nat) : List Log → Bool
  | [] => true
  | g :: l => match Nat.testBit a i with
    | true => apartB (i + 1) a rd wr l
    | false => match disjN g.wr rd, disjN wr g.rd, outOf g.lo g.hi rd with
      | true, true, true => apartB (i + 1) a rd wr l
      | _, _, _ => false
def ancAll : List Oper → List Nat → Option (List Nat)
  | [], acc => some acc
  | o :: os, acc => match ancOf acc o.after.toList 0 with
    | some a => ancAll os (acc ++ [a])
    | none => none
/-- The operands that are looked at. -/
def useOf : Op → List Operand
  | .move x => [x]
  | .assign x => [x]
  | .pick c a b => [c, a, b]
  | .alloc _ => []
  | .box _ x => [x]
  | .build _ ps => ps.toList.map (·.2)
  | .buildSlice _ _ ps => ps.toList.map (·.2)
  | .load _ a => [a]
  | .store _ a x => [a, x]
  | .nilCheck x => [x]
  | .binOp _ _ x y _ => [x, y]
  | .unOp _ _ x => [x]
  | .convert _ _ x => [x]
  | .makeInterface _ x => [x]
  | .makeFunc _ a b => a.toList ++ b.toList
  | .makeSlice _ l c => [l, c]
  | .slice _ x lo hi mx => x :: (lo.toList ++ (hi.toList ++ mx.toList))
  | .fieldAddr _ x _ => [x]
  | .field _ x _ => [x]
  | .indexAddr _ x i => [x, i]
  | .index _ x i => [x, i]
  | .extract x _ => [x]
  | .call c => match c.callee with
    | .value f => f :: c.args.toList
    | _ => c.args.toList
  | _ => []
def tmpOf : List Operand → List Nat
  | [] => []
  | .tmp t :: l => t :: tmpOf l
  | _ :: l => tmpOf l
/-- The temporaries that an operation looks at. -/
def usesT (ops : List Oper) (o : Oper) : List Nat := match o.guard with
  | none => tmpOf (useOf o.op)
  | some (j, _) => match getL ops j with
    | some p => match p.dst with
      | some d => d :: tmpOf (useOf o.op)
      | none => tmpOf (useOf o.op)
    | none => tmpOf (useOf o.op)
/-- Whoever writes temporary t is waited for by operation i, or waits for it. -/
def useOK (i a t : Nat) : Nat → List Oper → List Nat → Bool
  | _, [], _ => true
  | j, p :: ps, bs => match bs with
    | [] => false
    | b :: bs => match p.dst with
      | none => useOK i a t (j + 1) ps bs
      | some d => match Nat.beq d t with
        | false => useOK i a t (j + 1) ps bs
        | true => match Nat.beq j i, Nat.testBit a j, Nat.testBit b i with
          | false, false, false => false
          | _, _, _ => useOK i a t (j + 1) ps bs
def usesOK (ops : List Oper) (ancs : List Nat) (i a : Nat) : List Nat → Bool
  | [] => true
  | t :: ts => match useOK i a t 0 ops ancs with
    | true => usesOK ops ancs i a ts
    | false => false
def allUses (ops : List Oper) (ancs : List Nat) : Nat → List Oper → List Nat → Bool
  | _, [], _ => true
  | i, o :: os, l => match l with
    | [] => false
    | a :: l => match usesOK ops ancs i a (usesT ops o) with
      | true => allUses ops ancs (i + 1) os l
      | false => false
def dsts : List Oper → List Nat
  | [] => []
  | o :: os => match o.dst with
    | some d => d :: dsts os
    | none => dsts os
def noDup : List Nat → Bool
  | [] => true
  | x :: xs => match memN x xs with
    | true => false
    | false => noDup xs
/-- What each operation waits for, where the region is well made. -/
def drawOK (ops : List Oper) : Option (List Nat) := match ancAll ops [] with
  | some ancs => match allUses ops ancs 0 ops ancs, noDup (dsts ops) with
    | true, true => some ancs
    | _, _ => none
  | none => none
def below? (thr : Nat) : List Nat → List Nat → List Nat
  | [], acc => acc
  | x :: xs, acc => match Nat.blt x thr with
    | true => below? thr xs (x :: acc)
    | false => below? thr xs acc
/-- A region whose order is drawn: in the text's order, each operation with its own log; whatever may be carried out in another order has nothing to do with it. -/
def evDraw (ops : List Oper) : List Oper → List Nat → List Log → T AV → G → Option (T AV × G)
  | [], _, _, tm, g => some (tm, g)
  | o :: os, ancs, logs, tm, g => match ancs with
    | [] => none
    | a :: ancs => match evOne P call ops tm o ⟨g.H, g.n, g.n, [], []⟩ with
      | none => none
      | some (v, g1) => match apartB 0 a g1.rd g1.wr logs with
        | false => none
        | true => match putT N tm o.dst v with
          | none => none
          | some tm => evDraw ops os ancs (logs ++ [⟨g1.rd, g1.wr, g.n, g1.n⟩]) tm ⟨g1.H, g1.n, g.thr, below? g.thr g1.rd g.rd, below? g.thr g1.wr g.wr⟩
inductive Ex where
  | normal
  | exit (id : Nat)
  | ret
/-- A range over a function: the marks that it leaves, the jump that is pending. -/
def jumpOf : Nat → Ex
  | 0 => .normal
  | 1 => .ret
  | n + 2 => .exit n
def jumpTo : Ex → Nat
  | .normal => 0
  | .ret => 1
  | .exit n => n + 2
def evRange (nt : Nat) (f : AV) (tm : T AV) (ps : List Nat) (assign body : Code) (g : G) : Option (Nat × Nat × G) :=
  match g.new (.odd (.df true)) with
  | none => none
  | some (kd, g) => match g.new (.odd (.lp 0 0 nt tm ps assign body)) with
    | none => none
    | some (kl, g) => match evCall_ P f [.yl kl] g with
      | some (.call (.fn f) args g) => match call (.fn f) args g with
        | some (_, g) => some (kd, kl, g)
        | none => none
      | _ => none
/-- Behind the function: the pending jump. -/
def evEnd (kl : Nat) (g : G) : Option (Nat × G) := match g.readX kl with
  | some (.lp st jump nt tm ps assign body, g) => match Nat.beq st 1 with
    | true => none
    | false => match g.write kl (some (.odd .ded)) with
      | some g => some (jump, g)
      | none => none
  | _ => none
/-- Code: how it is left, the temporaries, the marks of deferred calls, memory. 'ro': in a loop's round. -/
def evCode (lf : Nat) (ro : Bool) : Code → T AV → List Nat → G → Option (Ex × T AV × List Nat × G)
  | .skip, tm, mk, g => some (.normal, tm, mk, g)
  | .label _, tm, mk, g => some (.normal, tm, mk, g)
  | .region _ ops draw, tm, mk, g => match draw with
    | false => match evOps P call N ops.toList ops.toList tm g with
      | some (tm, g) => some (.normal, tm, mk, g)
      | none => none
    | true => match drawOK ops.toList with
      | some ancs => match evDraw P call N ops.toList ops.toList ancs [] tm g with
        | some (tm, g) => some (.normal, tm, mk, g)
        | none => none
      | none => none
  | .seq a b, tm, mk, g => match evCode lf ro a tm mk g with
    | some (.normal, tm, mk, g) => evCode lf ro b tm mk g
    | r => r
  | .cond c a b, tm, mk, g => match opnd tm c with
    | .v (.bool true) => evCode lf ro a tm mk g
    | .v (.bool false) => evCode lf ro b tm mk g
    | _ => none
  | .block id c, tm, mk, g => match evCode lf ro c tm mk g with
    | some (.exit id', tm, mk, g) => match Nat.beq id' id with
      | true => some (.normal, tm, mk, g)
      | false => some (.exit id', tm, mk, g)
    | r => r
  | .loop c, tm, mk, g => evLoop (evCode lf ro c) lf tm mk g
  | .exit id, tm, mk, g => some (.exit id, tm, mk, g)
  | .scope c, tm, mk, g => evCode lf ro c tm mk g
  | .ret, tm, mk, g => some (.ret, tm, mk, g)
  | .rangeFunc f ps assign body, tm, mk, g => match ro with
    | true => none
    | false => match evRange P call N (opnd tm f) tm ps.toList assign body g with
      | some (kd, kl, g) => match evEnd kl g with
        | some (jump, g) => some (jumpOf jump, tm, kd :: mk, g)
        | none => none
      | none => none
  | _, _, _, _ => none
where evLoop (body : T AV → List Nat → G → Option (Ex × T AV × List Nat × G)) : Nat → T AV → List Nat → G → Option (Ex × T AV × List Nat × G)
  | 0, _, _, _ => none
  | n + 1, tm, mk, g => match body tm mk g with
    | some (.normal, tm, mk, g) => evLoop body n tm mk g
    | r => r
end
def argsT : Nat → T AV → List AV → Option (T AV)
  | _, tm, [] => some tm
  | i, tm, a :: l => match T.set (some a) fuelT tm i with
    | some tm => argsT (i + 1) tm l
    | none => none
section
variable (P : Program)
def resA (tm : T AV) (g : G) : List ResultVar → Option (List AV × G)
  | [] => some ([], g)
  | .tmp t :: l => match resA tm g l with
    | some (xs, g) => some (opnd tm (.tmp t) :: xs, g)
    | none => none
  | .cell t ty :: l => match evLoad P ty (opnd tm (.tmp t)) g with
    | some (.val a g) => match resA tm g l with
      | some (xs, g) => some (a :: xs, g)
      | none => none
    | _ => none
def resOne : List AV → AV
  | [a] => a
  | l => mkTup l
/-- The marks among the deferred calls: no call is left in any. -/
def evMarks : List Nat → G → Option G
  | [], g => some g
  | k :: ks, g => match g.readX k with
    | some (.df true, g) => match g.write k (some (.odd .ded)) with
      | some g => evMarks ks g
      | none => none
    | _ => none
def putsT (nt : Nat) : T AV → List Nat → List AV → Option (T AV)
  | tm, [], [] => some tm
  | tm, p :: ps, a :: l => match putT nt tm (some p) a with
    | some tm => putsT nt tm ps l
    | none => none
  | _, _, _ => none
/-- A round of a loop. -/
def evRound (call : Cl → List AV → G → Option (AV × G)) (lf k : Nat) (args : List AV) (g : G) : Option (AV × G) := match g.readX k with
  | some (.lp st _ nt tm ps assign body, g) => match st, putsT nt tm ps args with
    | 0, some tm => match evCode P call nt lf true assign tm [] g with
      | some (.normal, tm, _, g) => match g.readX k with
        | some (.lp st jump nt' tm' ps' assign' body', g) => match st, g.write k (some (.odd (.lp 1 jump nt' tm' ps' assign' body'))) with
          | 0, some g => match evCode P call nt lf true body tm [] g with
            | some (e, _, _, g) => match g.readX k with
              | some (.lp _ _ nt tm ps assign body, g) => match jumpTo e with
                | 0 => match g.write k (some (.odd (.lp 0 0 nt tm ps assign body))) with
                  | some g => some (.v (.bool true), g)
                  | none => none
                | j + 1 => match g.write k (some (.odd (.lp 2 (j + 1) nt tm ps assign body))) with
                  | some g => some (.v (.bool false), g)
                  | none => none
              | _ => none
            | none => none
          | _, _ => none
        | _ => none
      | _ => none
    | _, _ => none
  | _ => none
def evFn (lf : Nat) : Nat → Cl → List AV → G → Option (AV × G)
  | 0, _, _, _ => none
  | d + 1, .yl k, args, g => evRound P (evFn lf d) lf k args g
  | d + 1, .fn f, args, g => match P.funcs[f]? with
    | none => none
    | some fn => match fn.body with
      | none => none
      | some body => match Nat.ble args.length fn.ntmps, argsT 0 .nil args with
        | true, some tm => match evCode P (evFn lf d) fn.ntmps lf false body tm [] g with
          | some (.normal, tm, mk, g) | some (.ret, tm, mk, g) => match evMarks mk g with
            | some g => match resA P tm g fn.results.toList with
              | some (xs, g) => some (resOne xs, g)
              | none => none
            | none => none
          | _ => none
        | _, _ => none
def g0 : G := ⟨.nil, 0, 0, [], []⟩
/-- A closed call returns true. -/
def isTrue (lf d : Nat) (f : FuncId) : Bool := match evFn P lf d (.fn f) [] g0 with
  | some (.v (.bool true), _) => true
  | _ => false
end
end
end Go.Proofs.Ytgkojedgamglgaa.Eng
