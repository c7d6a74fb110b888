/-
  An evaluator over an ideal heap for the code of a loaded program. Conditions: none; these are definitions and say nothing by themselves.
-/
import Derived.RangeFuncIn
namespace Go.Ideal
open Go
noncomputable section

/-! ### Tries by numbers, and what goes round -/
inductive Tr (α : Type) where
  | e
  | n (l : Tr α) (v : Option α) (r : Tr α)

--[core
def Tr.get {α : Type} (t : Tr α) : Nat → Option α :=
  Tr.rec (motive := fun _ => Nat → Option α) (fun _ => none)
    (fun _ v _ gl gr k => Nat.rec (motive := fun _ => Option α) v
      (fun m _ => Nat.rec (motive := fun _ => Option α) (gl (Nat.div m (nat_lit 2))) (fun _ _ => gr (Nat.div m (nat_lit 2))) (Nat.mod m (nat_lit 2))) k) t

def Tr.setF {α : Type} (f : Nat) : Tr α → Nat → Option α → Tr α :=
  Nat.rec (motive := fun _ => Tr α → Nat → Option α → Tr α) (fun t _ _ => t)
    (fun _ ih t k v => Tr.rec (motive := fun _ => Tr α)
       (Nat.rec (motive := fun _ => Tr α) (.n .e v .e)
         (fun m _ => Nat.rec (motive := fun _ => Tr α) (.n (ih .e (Nat.div m (nat_lit 2)) v) none .e) (fun _ _ => .n .e none (ih .e (Nat.div m (nat_lit 2)) v)) (Nat.mod m (nat_lit 2))) k)
       (fun l x r _ _ => Nat.rec (motive := fun _ => Tr α) (.n l v r)
         (fun m _ => Nat.rec (motive := fun _ => Tr α) (.n (ih l (Nat.div m (nat_lit 2)) v) x r) (fun _ _ => .n l x (ih r (Nat.div m (nat_lit 2)) v)) (Nat.mod m (nat_lit 2))) k) t) f

/-- k of the number n, worked out -/
def force {α : Type} (n : Nat) (k : Nat → α) : α := Nat.rec (motive := fun _ => α) (k (nat_lit 0)) (fun m _ => k (Nat.succ m)) n

def forceB {α : Type} (b : Bool) (k : Bool → α) : α := Bool.rec (motive := fun _ => α) (k false) (k true) b

def Opt.go {α β : Type} (x : Option α) (f : α → Option β) : Option β := Option.rec (motive := fun _ => Option β) none f x
--core]

/-- numbers below this are kept in tries -/
def most : Nat := 1000000000
def Tr.set {α : Type} (t : Tr α) (k : Nat) (v : Option α) : Tr α := Tr.setF (nat_lit 40) t k v

/-- the union of two sets of numbers -/
def Tr.or {α : Type} : Tr α → Tr α → Tr α
  | .e => fun t => t
  | .n l v r => fun u => match u with
    | .e => .n l v r
    | .n l' v' r' => .n (l.or l') (match v with | some x => some x | none => v') (r.or r')

/-- no number is in both -/
def Tr.apart {α β : Type} : Tr α → Tr β → Bool
  | .e => fun _ => true
  | .n l v r => fun u => match u with
    | .e => true
    | .n l' v' r' => (match v with | some _ => (match v' with | some _ => false | none => true) | none => true) && (l.apart l' && r.apart r')

/-! ### The ideal heap -/
inductive IObj where
  /-- cells; `loose`: there may be room behind them that nobody knows of; `ro`: never written; `str`: made of a string -/
  | cells (c : List Value) (elem : TypeId) (loose ro str : Bool)
  | map (es : List (Value × Value × Nat)) (clock : Nat)
  | strIter (s : ByteArray) (pos : Nat)
  | mapIter (m : Option Nat) (since : Nat) (seen : List Nat) (stepped : Nat)
  /-- the record of a range over a function: state 0 ready, 1 busy, 2 done, 3 exhausted -/
  | loop (state : Nat) (pending : Option Code) (fn : Nat) (T : Tr Value) (size : Nat) (params : List Nat) (assign body : Code) (mark : Nat)
  | mark
  | dead
  /-- a long row of zero values of a type, so many of them -/
  | zeros (m : Nat) (elem : TypeId)
  /-- a channel that is open: its room and what waits in it -/
  | chan (cap : Nat) (buf : List Value)

/-- the heap, the next number, the number below which places are marked, the places that were read and written -/
structure HS where
  h : Tr IObj
  nx : Nat
  wm : Nat
  rd : Tr Unit
  wr : Tr Unit

abbrev EM (α : Type) := HS → Option (α × HS)

def EM.pure {α : Type} (a : α) : EM α := fun s => some (a, s)
def EM.fail {α : Type} : EM α := fun _ => none
def EM.bind {α β : Type} (m : EM α) (f : α → EM β) : EM β := fun s => Opt.go (m s) fun p => f p.1 p.2
def EM.lift {α : Type} (x : Option α) : EM α := fun s => Opt.go x fun a => some (a, s)
/-- a value that may be missing, handed on -/
def EM.have {α β : Type} (x : Option α) (f : α → EM β) : EM β := fun s => Opt.go x fun a => f a s
def EM.need {α : Type} (b : Bool) (m : EM α) : EM α := fun s => bif b then m s else none

/-- a place: of block i the block itself (0), or a cell (its number and 1) -/
def key (i o : Nat) : Nat := Nat.add (Nat.mul i (nat_lit 4096)) o
def bound : Nat := nat_lit 4090

/-- an object without what stands in its cells -/
def strip : IObj → IObj
  | .cells c e l ro st => .cells (c.map fun _ => .nilFunc) e l ro st
  | o => o

def hget (i : Nat) : EM IObj := fun s =>
  bif Nat.ble s.wm i then Opt.go (s.h.get i) fun o => some (strip o, s)
  else Opt.go (s.h.get i) fun o => some (strip o, { s with rd := s.rd.set (key i (nat_lit 0)) (some ()) })

def markR (i : Nat) : Nat → Nat → Tr Unit → Tr Unit
  | 0 => fun _ t => t
  | n + 1 => fun o t => markR i n (Nat.succ o) (t.set (key i (Nat.succ o)) (some ()))

def hnew (o : IObj) : EM Nat := fun s =>
  bif Nat.ble (nat_lit 200000) s.nx then none else
  force s.nx fun i => some (i, { s with h := s.h.set i (some o), nx := Nat.succ i })

def takeAt : List Value → Nat → Nat → Option (List Value)
  | [] => fun o n => match o, n with | 0, 0 => some [] | _, _ => none
  | v :: l => fun o n => match o with
    | 0 => match n with
      | 0 => some []
      | n + 1 => Opt.go (takeAt l (nat_lit 0) n) fun r => some (v :: r)
    | o + 1 => takeAt l o n

def putAt : List Value → Nat → List Value → Option (List Value)
  | [] => fun o vs => match o, vs with | 0, [] => some [] | _, _ => none
  | x :: l => fun o vs => match o with
    | 0 => match vs with
      | [] => some (x :: l)
      | v :: vs => Opt.go (putAt l (nat_lit 0) vs) fun r => some (v :: r)
    | o + 1 => Opt.go (putAt l o vs) fun r => some (x :: r)

/-- the cells of an object -/
def cellsIn : IObj → Option (List Value)
  | .cells c _ _ _ _ => some c
  | _ => none

/-- an object that is no row of cells is laid anew -/
def hset (i : Nat) (o : IObj) : EM Unit := fun s => Opt.go (s.h.get i) fun x =>
  bif (cellsIn x).isSome || (cellsIn o).isSome then none else
  bif Nat.ble s.wm i then some ((), { s with h := s.h.set i (some o) })
  else some ((), { s with h := s.h.set i (some o), wr := s.wr.set (key i (nat_lit 0)) (some ()) })

/-- a row of cells is given up -/
def hkill (i : Nat) : EM Unit := fun s => Opt.go (s.h.get i) fun x => Opt.go (cellsIn x) fun c =>
  bif Nat.ble bound c.length then none else
  bif Nat.ble s.wm i then some ((), { s with h := s.h.set i (some .dead) })
  else some ((), { s with h := s.h.set i (some .dead), wr := markR i c.length (nat_lit 0) (s.wr.set (key i (nat_lit 0)) (some ())) })

def hread (i o n : Nat) : EM (List Value) := fun s =>
  Opt.go (s.h.get i) fun x => Opt.go (cellsIn x) fun c => Opt.go (takeAt c o n) fun l =>
    bif Nat.ble bound (Nat.add o n) then none else
    bif Nat.ble s.wm i then some (l, s)
    else some (l, { s with rd := markR i n o (s.rd.set (key i (nat_lit 0)) (some ())) })

/-- one that may stand in a cell -/
def cellOk : Value → Bool
  | .agg _ | .tuple _ => false
  | _ => true

def hwrite (i o : Nat) (vs : List Value) : EM Unit := fun s =>
  Opt.go (s.h.get i) fun x => match x with
    | .cells c e l ro st => Opt.go (putAt c o vs) fun c' =>
      bif ro || !vs.all cellOk || Nat.ble bound (Nat.add o vs.length) then none else
      bif Nat.ble s.wm i then some ((), { s with h := s.h.set i (some (.cells c' e l ro st)) })
      else some ((), { s with h := s.h.set i (some (.cells c' e l ro st)), rd := s.rd.set (key i (nat_lit 0)) (some ()), wr := markR i vs.length o s.wr })
    | _ => none

/-! ### What is known of types and functions -/
structure TI where
  u : TypeDesc
  size : Nat
  bytes : Nat
  zero : List Value
  agg : Bool

/-- functions that are not run by their text -/
inductive Ext where
  | indexByte | countByte | fields | split
  /-- one that is known by what it answers; by that and an object -/
  | pure (F : List Value → Option Value)
  | peek (B : List Value → Option Nat) (G : List Value → IObj → Option Value)
  /-- a value of n cells is put into a channel that has room; the one value that is in a channel is taken: a row of one -/
  | put (n : Nat)
  | drain (n t : Nat)

/-- plain sorts: bool, int64, string -/
inductive Leaf where
  | b | i | s

/-- operations upon values that are not known, but by name -/
inductive ROp where
  | bin (op : BinOp)
  | un (op : UnOp)
  | conv (s d : TypeId)
  | len (t : TypeId)
  | max | min
  | cut (t : TypeId)

/-- Where an ideal block lies: the real block, the place of its first cell, how many cells it has, how many the real one has from there on, the cells of an element; whether there may be room behind; whether nothing is said of it. -/
structure RB where
  blk : Nat
  off : Nat
  n : Nat
  k : Nat
  esz : Nat
  loose : Bool
  ghost : Bool

structure Cx where
  fn : Nat → Option Func
  ty : Nat → Option TI
  ext : Nat → Option Ext
  str : Nat
  /-- of a row or a struct that may be compared cell by cell, without more: its cells' sorts -/
  eqs : Nat → Option (List Leaf)
  /-- blocks of the world that stay as they are -/
  fix : Nat → Option Obj
  /-- of a channel's type: its elements' -/
  chan : Nat → Option Nat
  /-- what the names stand for, and what operations upon them come to -/
  σ : Nat → Value
  rule : ROp → List Value → Option Value
  /-- where what came in lies -/
  base : Nat → Option RB

/-- is it a value that is known by name alone? -/
def isSym : Value → Bool
  | .float k _ => match k with
    | .f32 => true
    | .f64 => false
  | _ => false

/-! ### Values without addresses -/
def flat : Value → Bool
  | .bool _ | .int _ _ | .string _ | .pointer none | .slice none _ _ | .map none | .nilFunc | .nilIface => true
  | _ => false

def plainConst : Value → Bool
  | .agg cs => cs.toList.all flat
  | .tuple cs => cs.toList.isEmpty
  | v => flat v

abbrev Env := Tr Value

def look : Operand → Env → Option Value
  | .tmp t => fun T => T.get t
  | .const v => fun _ => bif plainConst v then some v else none
  | .global _ => fun _ => none
  | .func f => fun _ => some (.func (.func f) #[] #[])

/-! ### Integers -/
def topOf : IntKind → Nat
  | .i8 => nat_lit 127
  | .u8 => nat_lit 255
  | .i16 => nat_lit 32767
  | .u16 => nat_lit 65535
  | .i32 => nat_lit 2147483647
  | .u32 => nat_lit 4294967295
  | .i64 => nat_lit 9223372036854775807
  | .u64 => nat_lit 18446744073709551615

def intV (k : IntKind) : Int → Value
  | .ofNat m => bif Nat.ble m (topOf k) then force m fun m => .int k (.ofNat m) else .int k (k.wrap (.ofNat m))
  | .negSucc m => .int k (k.wrap (.negSucc m))

def boolV (b : Bool) : Value := forceB b .bool

def bitsModel (op : BinOp) (k : IntKind) (a b : Int) : Option Value :=
  match op with
  | .and => some (.int k (k.wrap (BitVec.ofInt k.bits a &&& BitVec.ofInt k.bits b).toNat))
  | .or => some (.int k (k.wrap (BitVec.ofInt k.bits a ||| BitVec.ofInt k.bits b).toNat))
  | .xor => some (.int k (k.wrap (BitVec.ofInt k.bits a ^^^ BitVec.ofInt k.bits b).toNat))
  | .andNot => some (.int k (k.wrap (BitVec.ofInt k.bits a &&& ~~~ BitVec.ofInt k.bits b).toNat))
  | _ => none

def bitsV (op : BinOp) : IntKind → Int → Int → Option Value := fun k a b =>
  match a, b with
  | .ofNat m, .ofNat n =>
    bif Nat.ble m (topOf k) && Nat.ble n (topOf k) then
      match op with
      | .and => some (force (Nat.land m n) fun x => .int k (.ofNat x))
      | .or => some (force (Nat.lor m n) fun x => .int k (.ofNat x))
      | .xor => some (force (Nat.xor m n) fun x => .int k (.ofNat x))
      | op => bitsModel op k a b
    else bitsModel op k a b
  | _, _ => bitsModel op k a b

def intOp : BinOp → IntKind → Int → Int → Option Value
  | .add => fun k a b => some (intV k (Int.add a b))
  | .sub => fun k a b => some (intV k (Int.sub a b))
  | .mul => fun k a b => some (intV k (Int.mul a b))
  | .quo => fun k a b => if b = 0 then none else some (intV k (a.tdiv b))
  | .rem => fun k a b => if b = 0 then none else some (.int k (a.tmod b))
  | .eql => fun _ a b => some (boolV (decide (a = b)))
  | .neq => fun _ a b => some (boolV (!decide (a = b)))
  | .lss => fun _ a b => some (boolV (decide (a < b)))
  | .leq => fun _ a b => some (boolV (decide (a ≤ b)))
  | .gtr => fun _ a b => some (boolV (decide (b < a)))
  | .geq => fun _ a b => some (boolV (decide (b ≤ a)))
  | .and => bitsV .and
  | .or => bitsV .or
  | .xor => bitsV .xor
  | .andNot => bitsV .andNot
  | _ => fun _ _ _ => none

def shiftOp : BinOp → IntKind → Int → Nat → Option Value
  | .shl => fun k a n => some (intV k (a * 2 ^ min n k.bits))
  | .shr => fun k a n => some (.int k (a.fdiv (2 ^ min n k.bits)))
  | _ => fun _ _ _ => none

def sameBytes : List UInt8 → List UInt8 → Bool
  | [] => fun m => match m with | [] => true | _ :: _ => false
  | a :: l => fun m => match m with
    | [] => false
    | b :: m => bif Nat.beq a.toNat b.toNat then sameBytes l m else false

def strOp : BinOp → ByteArray → ByteArray → Option Value
  | .add => fun x y => bif Nat.ble 1000000000 (x.size + y.size) then none else some (.string ⟨(x.data.toList ++ y.data.toList).toArray⟩)
  | .eql => fun x y => some (boolV (sameBytes x.data.toList y.data.toList))
  | .neq => fun x y => some (boolV (!sameBytes x.data.toList y.data.toList))
  | _ => fun _ _ => none

/-- of a block: whether it is never written, whether it was made of a string -/
def metaOf : IObj → Option (Bool × Bool)
  | .cells _ _ _ ro st => some (ro, st)
  | _ => none

/-- may these two addresses be compared? -/
def ptrEq (a b : Addr) : EM Bool :=
  EM.bind (hget a.block) fun x => EM.bind (hget b.block) fun y =>
  EM.have (metaOf x) fun mx => EM.have (metaOf y) fun my =>
  EM.need (a.spot.isNone && b.spot.isNone) <|
  bif Nat.beq a.block b.block then EM.pure (Nat.beq a.off b.off)
  else EM.need (!(mx.1 || my.1 || mx.2 || my.2)) (EM.pure false)

/-- the size of what a pointer's type points to, if it is not nothing -/
def ptrTo (Γ : Cx) : TypeDesc → Option Unit
  | .pointer e => Opt.go (Γ.ty e) fun te => bif Nat.beq te.size (nat_lit 0) then none else some ()
  | _ => none

def eqBool (x y : Value) : EM Bool :=
  match x with
  | .bool a => match y with | .bool b => EM.pure (a == b) | _ => EM.fail
  | _ => EM.fail

def eqPtr (x y : Value) : EM Bool :=
  match x with
  | .pointer none => match y with | .pointer b => EM.pure b.isNone | _ => EM.fail
  | .pointer (some a) => match y with
    | .pointer none => EM.pure false
    | .pointer (some b) => ptrEq a b
    | _ => EM.fail
  | _ => EM.fail

def eqSlice (x y : Value) : EM Bool :=
  match x with
  | .slice none _ _ => match y with | .slice b _ _ => EM.pure b.isNone | _ => EM.fail
  | .slice (some _) _ _ => match y with | .slice none _ _ => EM.pure false | _ => EM.fail
  | _ => EM.fail

def eqMap (x y : Value) : EM Bool :=
  match x with
  | .map none => match y with | .map b => EM.pure b.isNone | _ => EM.fail
  | .map (some _) => match y with | .map none => EM.pure false | _ => EM.fail
  | _ => EM.fail

def eqFunc (x y : Value) : EM Bool :=
  match x with
  | .nilFunc => match y with | .nilFunc => EM.pure true | .func .. => EM.pure false | _ => EM.fail
  | .func .. => match y with | .nilFunc => EM.pure false | _ => EM.fail
  | _ => EM.fail

def eqOp (Γ : Cx) : TypeDesc → Value → Value → EM Bool
  | .bool => eqBool
  | .pointer e => fun x y => EM.have (ptrTo Γ (.pointer e)) fun _ => eqPtr x y
  | .slice _ => eqSlice
  | .map _ _ => eqMap
  | .func _ _ _ => eqFunc
  | _ => fun _ _ => EM.fail

/-- two values of one plain sort -/
def sameLeaf : Leaf → Value → Value → Option Bool
  | .b => fun x y => match x with
    | .bool a => match y with
      | .bool b => some (a == b)
      | _ => none
    | _ => none
  | .i => fun x y => match x with
    | .int .i64 a => match y with
      | .int .i64 b => some (decide (a = b))
      | _ => none
    | _ => none
  | .s => fun x y => match x with
    | .string a => match y with
      | .string b => some (sameBytes a.data.toList b.data.toList)
      | _ => none
    | _ => none

/-- rows and structs of plain sorts, cell by cell -/
def sameFlat : List Leaf → List Value → List Value → Option Bool
  | [] => fun xs ys => match xs with
    | [] => match ys with
      | [] => some true
      | _ :: _ => none
    | _ :: _ => none
  | k :: ks => fun xs ys => match xs with
    | [] => none
    | x :: xs => match ys with
      | [] => none
      | y :: ys => Opt.go (sameLeaf k x y) fun r => Opt.go (sameFlat ks xs ys) fun q => some (r && q)

def eqAny (Γ : Cx) (t : TypeId) (x y : Value) : EM Bool :=
  match x with
  | .agg xs => match y with
    | .agg ys => EM.have (Γ.eqs t) fun ks => EM.lift (sameFlat ks xs.toList ys.toList)
    | _ => EM.fail
  | x => EM.have (Γ.ty t) fun ti => eqOp Γ ti.u x y

/-- a number of int64, and 2^63 -/
def biased : Int → Option Nat
  | .ofNat n => some (Nat.add n (nat_lit 9223372036854775808))
  | .negSucc n => bif Nat.ble n (nat_lit 9223372036854775807) then some (Nat.sub (nat_lit 9223372036854775807) n) else none

def symLt (lo hi c : Nat) (neg : Bool) : Option Value :=
  bif Nat.blt hi c then some (boolV (xor neg true)) else bif Nat.ble c lo then some (boolV (xor neg false)) else none

def symLe (lo hi c : Nat) (neg : Bool) : Option Value :=
  bif Nat.ble hi c then some (boolV (xor neg true)) else bif Nat.blt c lo then some (boolV (xor neg false)) else none

def symEq (lo hi c : Nat) (neg : Bool) : Option Value :=
  bif Nat.blt hi c || Nat.blt c lo then some (boolV neg) else none

/-- a number of which it is known where it lies, held against a number -/
def symOp (op : BinOp) (lo hi c : Nat) : Option Value :=
  match op with
  | .lss => symLt lo hi c false
  | .geq => symLt lo hi c true
  | .leq => symLe lo hi c false
  | .gtr => symLe lo hi c true
  | .eql => symEq lo hi c false
  | .neq => symEq lo hi c true
  | _ => none

/-- the same asked the other way round -/
def flip : BinOp → BinOp
  | .lss => .gtr
  | .gtr => .lss
  | .leq => .geq
  | .geq => .leq
  | .eql => .eql
  | .neq => .neq
  | _ => .add

/-- a number, and one of which it is known where it lies -/
def addSym (op : BinOp) (k : IntKind) (a : Int) (lo hi : Nat) : EM Value :=
  match op with
  | .add => match k with
    | .i64 => match a with
      | .ofNat n => EM.need (Nat.blt (Nat.add hi n) (nat_lit 18446744073709551616)) (force (Nat.add lo n) fun l => force (Nat.add hi n) fun h => EM.pure (.complex .f64 l h))
      | _ => EM.fail
    | _ => EM.fail
  | op => match k with
    | .i64 => EM.lift (Opt.go (biased a) fun c => symOp (flip op) lo hi c)
    | _ => EM.fail

def binInt (op : BinOp) (k : IntKind) (a : Int) (y : Value) : EM Value :=
  match y with
  | .complex .f64 lo hi => addSym op k a lo hi
  | .int k' b => match op with
    | .shl | .shr => match b with
      | .ofNat n => EM.lift (shiftOp op k a n)
      | _ => EM.fail
    | _ => if k = k' then EM.lift (intOp op k a b) else EM.fail
  | _ => EM.fail

def binStr (op : BinOp) (a : ByteArray) (y : Value) : EM Value :=
  match y with
  | .string b => EM.lift (strOp op a b)
  | _ => EM.fail

def binOther (Γ : Cx) (op : BinOp) (t : TypeId) (x y : Value) : EM Value :=
  match op with
  | .eql => EM.bind (eqAny Γ t x y) fun b => EM.pure (boolV b)
  | .neq => EM.bind (eqAny Γ t x y) fun b => EM.pure (boolV !b)
  | _ => EM.fail

def binSym (op : BinOp) (lo hi : Nat) (y : Value) : EM Value :=
  match y with
  | .int .i64 b => EM.lift (Opt.go (biased b) fun c => symOp op lo hi c)
  | _ => EM.fail

/-- a byte of which it is known where it lies: what is left of it -/
def binSym8 (op : BinOp) (_hi : Nat) (y : Value) : EM Value :=
  match y with
  | .int .u8 (.ofNat c) => match op with
    | .rem => EM.need (Nat.blt (nat_lit 0) c && Nat.ble c (nat_lit 256)) (force (Nat.sub c (nat_lit 1)) fun h => EM.pure (.complex .f32 (nat_lit 0) h))
    | _ => EM.fail
  | _ => EM.fail

def binV (x : Value) : Cx → BinOp → TypeId → Value → EM Value :=
  match x with
  | .complex .f64 lo hi => fun _ op _ y => binSym op lo hi y
  | .complex .f32 _ hi => fun _ op _ y => binSym8 op hi y
  | .int k a => fun _ op _ y => binInt op k a y
  | .string a => fun _ op _ y => binStr op a y
  | x => fun Γ op t y => binOther Γ op t x y

def unV : UnOp → Value → Option Value
  | .neg => fun x => match x with | .int k n => some (intV k (Int.sub 0 n)) | _ => none
  | .xor => fun x => match x with | .int k n => intOp .xor k (if k.signed then -1 else k.max) n | _ => none
  | .not => fun x => match x with | .bool b => some (boolV !b) | _ => none
  | _ => fun _ => none

/-! ### Memory -/
def newCells (elem : TypeId) (c : List Value) (loose str : Bool) : EM Addr :=
  EM.need (Nat.ble c.length bound && c.all cellOk) <|
  EM.bind (hnew (.cells c elem loose false str)) fun i => EM.pure ⟨i, nat_lit 0, none⟩

def readCells (a : Addr) (n : Nat) : EM (List Value) := EM.need a.spot.isNone (hread a.block a.off n)
def writeCells (a : Addr) (vs : List Value) : EM Unit := EM.need a.spot.isNone (hwrite a.block a.off vs)

def cellsOf : Value → List Value
  | .agg cs => cs.toList
  | v => [v]

def oneOf : List Value → Option Value
  | [v] => some v
  | _ => none

def loadV (Γ : Cx) (t : TypeId) (a : Addr) : EM Value :=
  EM.have (Γ.ty t) fun ti =>
  bif ti.agg then EM.bind (readCells a ti.size) fun l => EM.pure (.agg l.toArray)
  else EM.bind (readCells a (nat_lit 1)) fun l => EM.lift (oneOf l)

def storeV (Γ : Cx) (t : TypeId) (a : Addr) (v : Value) : EM Unit :=
  EM.have (Γ.ty t) fun ti => EM.need (Nat.beq (cellsOf v).length ti.size) (writeCells a (cellsOf v))

def addrOf : Value → Option Addr
  | .pointer (some a) => some a
  | _ => none

def addOff (a : Addr) (n : Nat) : Addr := bif Nat.beq n (nat_lit 0) then a else force (Nat.add a.off n) fun o => { block := a.block, off := o, spot := none }

def repCells (zero : List Value) : Nat → List Value
  | 0 => []
  | n + 1 => zero ++ repCells zero n

def parts : List (Nat × Operand) → Env → Option (List (Nat × Value))
  | [] => fun _ => some []
  | p :: l => fun T => Opt.go (look p.2 T) fun v => Opt.go (parts l T) fun r => some ((p.1, v) :: r)

/-- parts laid into cells -/
def lay (place : Nat → Option (Nat × Nat)) : List (Nat × Value) → List Value → Option (List Value)
  | [] => fun cs => some cs
  | p :: rest => fun cs => Opt.go (place p.1) fun os =>
    bif Nat.beq (cellsOf p.2).length os.2 then Opt.go (putAt cs os.1 (cellsOf p.2)) fun cs' => lay place rest cs' else none

def place (Γ : Cx) (fs : Array Field) (i : Nat) : Option (Nat × Nat) :=
  Opt.go (fs[i]?) fun f => Opt.go (Γ.ty f.type) fun ti => some (f.offset, ti.size)

/-- are all the fields' types known? -/
def allTy (Γ : Cx) : List Field → Bool
  | [] => true
  | f :: l => (Γ.ty f.type).isSome && allTy Γ l

def buildV (Γ : Cx) (t : TypeId) (ps : List (Nat × Value)) : Option Value :=
  Opt.go (Γ.ty t) fun ti =>
  match ti.u with
  | .struct fs => bif allTy Γ fs.toList then Opt.go (lay (place Γ fs) ps ti.zero) fun cs => some (.agg cs.toArray) else none
  | .array _ elem => Opt.go (Γ.ty elem) fun te => Opt.go (lay (fun i => some (i * te.size, te.size)) ps ti.zero) fun cs => some (.agg cs.toArray)
  | _ => none

def partV (Γ : Cx) (t : TypeId) (cs : List Value) (off : Nat) : Option Value :=
  Opt.go (Γ.ty t) fun ti =>
  bif ti.agg then Opt.go (takeAt cs off ti.size) fun l => some (.agg l.toArray)
  else Opt.go (takeAt cs off (nat_lit 1)) oneOf

def natOf : Value → Option Nat
  | .int _ (.ofNat n) => some n
  | _ => none

/-- an operand's value that there need not be -/
def natOr (d : Nat) : Option Value → Option Nat
  | none => some d
  | some v => natOf v

/-- bounds of a slice expression: all are within -/
def bounds (len cap : Nat) (lo hi mx : Option Value) : Option (Nat × Nat × Nat) :=
  Opt.go (natOr cap mx) fun m => Opt.go (natOr len hi) fun h => Opt.go (natOr (nat_lit 0) lo) fun l =>
  bif Nat.ble l h && Nat.ble h m && Nat.ble m cap && (mx.isNone || hi.isSome) then some (l, h, m) else none

/-- is this slice's capacity known? -/
def tightOf (off cap : Nat) (elem : TypeId) (esz : Nat) : IObj → Option Bool
  | .cells c e loose _ _ => bif loose then (bif Nat.beq e elem then some (Nat.blt (off + cap * esz) c.length) else none) else some true
  | _ => none

def tight (a : Addr) (cap : Nat) (elem : TypeId) (esz : Nat) : EM Bool :=
  EM.bind (hget a.block) fun o => EM.lift (tightOf a.off cap elem esz o)

def sliceOf (a : Addr) (l h m esz : Nat) : Value :=
  .slice (some (bif Nat.beq m l then a else addOff a (l * esz))) (h - l) (m - l)

def dropL : List UInt8 → Nat → List UInt8
  | [] => fun _ => []
  | b :: l => fun n => match n with
    | 0 => b :: l
    | n + 1 => dropL l n

def takeL : List UInt8 → Nat → List UInt8
  | [] => fun _ => []
  | b :: l => fun n => match n with
    | 0 => []
    | n + 1 => b :: takeL l n

def sliceStr (s : ByteArray) (lo hi mx : Option Value) : EM Value :=
  EM.have (bounds s.size s.size lo hi none) fun b => EM.need mx.isNone (EM.pure (.string ⟨(takeL (dropL s.data.toList b.1) (b.2.1 - b.1)).toArray⟩))

def sliceArr (Γ : Cx) (a : Addr) (n : Nat) (elem : TypeId) (lo hi mx : Option Value) : EM Value :=
  EM.have (Γ.ty elem) fun te => EM.have (bounds n n lo hi mx) fun b =>
  EM.bind (tight a n elem te.size) fun tg => EM.need tg (EM.pure (sliceOf a b.1 b.2.1 b.2.2 te.size))

def sliceSl (Γ : Cx) (a : Addr) (len cap : Nat) (elem : TypeId) (lo hi mx : Option Value) : EM Value :=
  EM.have (Γ.ty elem) fun te => EM.have (bounds len cap lo hi mx) fun b =>
  EM.bind (tight a cap elem te.size) fun tg =>
  bif tg then EM.pure (sliceOf a b.1 b.2.1 b.2.2 te.size)
  else EM.need mx.isNone <|
  bif Nat.beq b.1 b.2.2 then
    -- all is cut off: where the address lies then hangs on the room behind
    EM.bind (hnew (.cells [] elem true true false)) fun i => EM.pure (.slice (some ⟨i, nat_lit 0, none⟩) (nat_lit 0) (nat_lit 0))
  else EM.pure (.slice (some (addOff a (b.1 * te.size))) (b.2.1 - b.1) (b.2.2 - b.1))

def sliceV (Γ : Cx) (t : TypeId) (x : Value) (lo hi mx : Option Value) : EM Value :=
  EM.have (Γ.ty t) fun ti =>
  match ti.u with
  | .string => match x with
    | .string s => sliceStr s lo hi mx
    | _ => EM.fail
  | .slice elem => match x with
    | .slice none len cap => EM.have (bounds len cap lo hi mx) fun b => EM.have (Γ.ty elem) fun _ => EM.pure (.slice none (b.2.1 - b.1) (b.2.2 - b.1))
    | .slice (some a) len cap => sliceSl Γ a len cap elem lo hi mx
    | _ => EM.fail
  | .array n elem => match x with
    | .pointer (some a) => sliceArr Γ a n elem lo hi mx
    | _ => EM.fail
  | .pointer arr => match x with
    | .pointer (some a) => EM.have (Γ.ty arr) fun ta => match ta.u with
      | .array n elem => sliceArr Γ a n elem lo hi mx
      | _ => EM.fail
    | _ => EM.fail
  | _ => EM.fail

/-! ### Maps -/
def keyEq : Value → Value → Option Bool
  | .int k x => fun b => match b with | .int k' y => if k = k' then some (decide (x = y)) else none | _ => none
  | .string x => fun b => match b with | .string y => some (sameBytes x.data.toList y.data.toList) | _ => none
  | _ => fun _ => none

def findE (k : Value) : List (Value × Value × Nat) → Nat → Option (Option (Nat × Value))
  | [] => fun _ => some none
  | e :: l => fun i => Opt.go (keyEq k e.1) fun b => bif b then some (some (i, e.2.1)) else findE k l (Nat.succ i)

def keyKind (ti : TI) : Bool :=
  match ti.u with
  | .int _ | .string => true
  | _ => false

def entries : IObj → Option (List (Value × Value × Nat) × Nat)
  | .map es clock => some (es, clock)
  | _ => none

def zeroV (te : TI) : Option Value := bif te.agg then some (.agg te.zero.toArray) else oneOf te.zero

def mapOf : Value → EM (List (Value × Value × Nat))
  | .map none => EM.pure []
  | .map (some r) => EM.bind (hget r) fun o => EM.have (entries o) fun e => EM.pure e.1
  | _ => EM.fail

/-- the types of a map's keys and elements -/
def mapTy (Γ : Cx) (t : TypeId) : Option (TI × TypeId) :=
  Opt.go (Γ.ty t) fun ti => match ti.u with
    | .map key elem => Opt.go (Γ.ty key) fun tk => bif keyKind tk then some (tk, elem) else none
    | _ => none

/-- is this a key of that kind? -/
def keyFits (tk : TI) (k : Value) : Bool :=
  match tk.u with
  | .int _ => (match k with | .int _ _ => true | _ => false)
  | .string => (match k with | .string _ => true | _ => false)
  | _ => false

def lookupV (Γ : Cx) (t : TypeId) (x k : Value) (commaOk : Bool) : EM Value :=
  EM.have (mapTy Γ t) fun m => EM.need (keyFits m.1 k) <| EM.have (Γ.ty m.2) fun te => EM.have (zeroV te) fun zero =>
  EM.bind (mapOf x) fun es => EM.have (findE k es (nat_lit 0)) fun r =>
  match r with
  | some p => EM.pure (bif commaOk then .tuple #[p.2, .bool true] else p.2)
  | none => EM.pure (bif commaOk then .tuple #[zero, .bool false] else zero)

def setE (k v : Value) : List (Value × Value × Nat) → Nat → List (Value × Value × Nat)
  | [] => fun _ => []
  | e :: l => fun i => match i with
    | 0 => (k, v, e.2.2) :: l
    | i + 1 => e :: setE k v l i

def refOf : Value → Option Nat
  | .map (some r) => some r
  | _ => none

def updateV (Γ : Cx) (t : TypeId) (m k v : Value) : EM Unit :=
  EM.have (mapTy Γ t) fun mt => EM.need (keyFits mt.1 k) <| EM.have (refOf m) fun r => EM.bind (hget r) fun o => EM.have (entries o) fun e =>
  EM.have (findE k e.1 (nat_lit 0)) fun f =>
  match f with
  | some p => hset r (.map (setE k v e.1 p.1) e.2)
  | none => hset r (.map (e.1 ++ [(k, v, e.2)]) (Nat.succ e.2))

def deleteV (Γ : Cx) (t : TypeId) (m k : Value) : EM Unit :=
  EM.have (mapTy Γ t) fun mt => EM.need (keyFits mt.1 k) <|
  match m with
  | .map none => EM.pure ()
  | .map (some r) => EM.bind (hget r) fun o => EM.have (entries o) fun e => EM.have (findE k e.1 (nat_lit 0)) fun f =>
    match f with
    | some p => hset r (.map (e.1.eraseIdx p.1) e.2)
    | none => EM.pure ()
  | _ => EM.fail

def rangeObj (Γ : Cx) (t : TypeId) (x : Value) : EM IObj :=
  EM.have (Γ.ty t) fun ti =>
  match ti.u with
  | .string => match x with
    | .string s => EM.pure (.strIter s (nat_lit 0))
    | _ => EM.fail
  | .map _ _ => match x with
    | .map none => EM.pure (.mapIter none (nat_lit 0) [] (nat_lit 0))
    | .map (some m) => EM.bind (hget m) fun o => EM.have (entries o) fun e => EM.pure (.mapIter (some m) e.2 [] e.2)
    | _ => EM.fail
  | _ => EM.fail

def rangeV (Γ : Cx) (t : TypeId) (x : Value) : EM Value :=
  EM.bind (rangeObj Γ t x) fun it => EM.need (cellsIn it).isNone <| EM.bind (hnew it) fun i => EM.pure (.pointer (some ⟨i, nat_lit 0, none⟩))

def blockOf : Value → Option Nat
  | .pointer (some ⟨r, 0, none⟩) => some r
  | _ => none

def over : Value := .tuple #[.bool false]

def nextStr (r : Nat) (s : ByteArray) (pos : Nat) : EM Value :=
  bif Nat.blt pos s.size then
    EM.bind (hset r (.strIter s (pos + (Utf8.decode s pos).2))) fun _ => EM.pure (.tuple #[.bool true, .int .i64 pos, .int .i32 (Utf8.decode s pos).1])
  else EM.pure over

def nextMap (r m since : Nat) (seen : List Nat) (last : Nat) : EM Value :=
  EM.bind (hget m) fun o => EM.have (entries o) fun e =>
  EM.need (!(!seen.isEmpty && !e.1.isEmpty && e.1.all fun x => Nat.ble last x.2.2)) <|
  match e.1.filter fun x => !seen.contains x.2.2 with
  | [] => EM.pure over
  | [x] => EM.need (Nat.blt x.2.2 since) <|
    EM.bind (hset r (.mapIter (some m) since (seen ++ [x.2.2]) e.2)) fun _ => EM.pure (.tuple #[.bool true, x.1, x.2.1])
  | _ => EM.fail

def nextV (x : Value) (isString : Bool) : EM Value :=
  EM.have (blockOf x) fun r => EM.bind (hget r) fun it =>
  match it with
  | .strIter s pos => EM.need isString (nextStr r s pos)
  | .mapIter none _ _ _ => EM.need (!isString) (EM.pure over)
  | .mapIter (some m) since seen last => EM.need (!isString) (nextMap r m since seen last)
  | _ => EM.fail

def findBorn (n : Nat) : List (Value × Value × Nat) → Option (Value × Value)
  | [] => none
  | e :: l => bif Nat.beq e.2.2 n then some (e.1, e.2.1) else findBorn n l

def entryV (x : Value) : EM Value :=
  EM.have (blockOf x) fun r => EM.bind (hget r) fun it =>
  match it with
  | .mapIter (some m) _ seen stepped => EM.have seen.getLast? fun stamp => EM.bind (hget m) fun o => EM.have (entries o) fun e =>
    EM.need (Nat.beq e.2 stepped) (EM.have (findBorn stamp e.1) fun kv => EM.pure (.tuple #[kv.1, kv.2]))
  | _ => EM.fail

/-! ### Builtins -/
def bytesOf : List Value → Option (List UInt8)
  | [] => some []
  | .int .u8 n :: l => Opt.go (bytesOf l) fun r => some (UInt8.ofNat n.toNat :: r)
  | _ => none

def byteCells (s : ByteArray) : List Value := s.data.toList.map fun b => .int .u8 b.toNat

/-- the cells of n elements of a slice, or of a string -/
def elems (size n : Nat) : Value → EM (List Value)
  | .slice (some a) _ _ => readCells a (n * size)
  | .slice none _ _ => EM.pure []
  | .string s => EM.pure ((byteCells s).take n)
  | _ => EM.fail

def lenV : Value → Option Nat
  | .slice _ n _ => some n
  | .string s => some s.size
  | _ => none

def sliceParts : Value → Option (Option Addr × Nat × Nat)
  | .slice a n c => some (a, n, c)
  | _ => none

def elemTy : TypeDesc → Option TypeId
  | .slice e => some e
  | _ => none

def isInt : TypeDesc → Bool
  | .int _ => true
  | _ => false

/-- the old block of an append is given up, if nobody knows whether it has room -/
def giveUp (base : Option Addr) (len cap : Nat) (elem : TypeId) (esz : Nat) : EM Unit :=
  match base with
  | none => EM.pure ()
  | some a => EM.bind (hget a.block) fun o => EM.have (tightOf a.off cap elem esz o) fun tg =>
    bif tg then EM.pure () else EM.have (metaOf o) fun m => EM.need (Nat.beq len cap && !m.1 && !m.2) (hkill a.block)

def writeBase (base : Option Addr) (n : Nat) (vs : List Value) : EM Unit :=
  match base with
  | none => EM.pure ()
  | some a => writeCells (addOff a n) vs

def appendV (Γ : Cx) (ts tx : TypeId) (s x : Value) : EM Value :=
  EM.have (Γ.ty ts) fun ti => EM.have (Γ.ty tx) fun tj => EM.have (elemTy ti.u) fun elem => EM.have (Γ.ty elem) fun te =>
  EM.have (lenV x) fun n => EM.have (sliceParts s) fun p =>
  EM.need (!isInt tj.u && !Nat.ble (nat_lit 1000000) (Nat.mul (Nat.add p.2.1 n) (Nat.succ te.bytes)) && !Nat.beq te.size (nat_lit 0)) <|
  bif Nat.ble (Nat.add p.2.1 n) p.2.2 then
    EM.bind (elems te.size n x) fun new => EM.bind (writeBase p.1 (Nat.mul p.2.1 te.size) new) fun _ =>
    force (Nat.add p.2.1 n) fun k => EM.pure (.slice p.1 k p.2.2)
  else
    EM.bind (elems te.size p.2.1 s) fun old => EM.bind (elems te.size n x) fun new =>
    EM.need (Nat.beq (old ++ new).length (Nat.mul (Nat.add p.2.1 n) te.size)) <|
    EM.bind (giveUp p.1 p.2.1 p.2.2 elem te.size) fun _ =>
    EM.bind (newCells elem (old ++ new) true false) fun b =>
    force (Nat.add p.2.1 n) fun k => EM.pure (.slice (some b) k k)

def goI (n : Nat) : Value := force n fun m => .int .i64 (.ofNat m)

def copyV (Γ : Cx) (ts : TypeId) (dst src : Value) : EM Value :=
  EM.have (Γ.ty ts) fun ti => EM.have (elemTy ti.u) fun elem => EM.have (Γ.ty elem) fun te =>
  EM.have (lenV src) fun m => EM.have (sliceParts dst) fun p =>
  EM.bind (elems te.size (min m p.2.1) src) fun cs => EM.bind (writeBase p.1 (nat_lit 0) cs) fun _ =>
  EM.pure (goI ((min m p.2.1)))

def lenB (Γ : Cx) (ts : TypeId) (x : Value) : EM Value :=
  EM.have (Γ.ty ts) fun ti =>
  match ti.u with
  | .string => match x with | .string s => EM.pure (goI (s.size)) | _ => EM.fail
  | .array n _ => EM.pure (goI (n))
  | .slice _ => match x with | .slice _ n _ => EM.pure (goI (n)) | .float k n => (match k with | .f64 => EM.pure (goI (n)) | .f32 => EM.fail) | _ => EM.fail
  | .map _ _ => EM.bind (mapOf x) fun es => EM.pure (goI (es.length))
  | .pointer arr => EM.have (Γ.ty arr) fun ta => match ta.u with
    | .array n _ => EM.pure (goI (n))
    | _ => EM.fail
  | _ => EM.fail

def minmaxFrom (big : Bool) (k : IntKind) : List Value → Int → Option Value
  | [] => fun a => some (.int k a)
  | .int k' b :: l => fun a => if k = k' then minmaxFrom big k l (bif bif big then decide (b > a) else decide (b < a) then b else a) else none
  | _ => fun _ => none

def minmax (big : Bool) : List Value → Option Value
  | .int k a :: l => minmaxFrom big k l a
  | _ => none

def clearV (Γ : Cx) (ts : TypeId) (x : Value) : EM Unit :=
  EM.have (Γ.ty ts) fun ti =>
  match x with
  | .map none => EM.pure ()
  | .slice none _ _ => EM.pure ()
  | .slice (some _) 0 _ => EM.pure ()
  | .slice (some a) (n + 1) _ => EM.have (elemTy ti.u) fun elem => EM.have (Γ.ty elem) fun te => writeCells a (repCells te.zero (n + 1))
  | .map (some r) => EM.bind (hget r) fun o => EM.have (entries o) fun e => hset r (.map [] e.2)
  | _ => EM.fail

def noneV : Value := .tuple #[]

def builtinV : Builtin → Cx → Array TypeId → List Value → EM Value
  | .append => fun Γ ts as => match as with
    | [s, x] => EM.have (ts[0]?) fun t => EM.have (ts[1]?) fun u => appendV Γ t u s x
    | _ => EM.fail
  | .copy => fun Γ ts as => match as with
    | [d, s] => EM.have (ts[0]?) fun t => copyV Γ t d s
    | _ => EM.fail
  | .len => fun Γ ts as => match as with
    | [x] => EM.have (ts[0]?) fun t => bif isSym x then EM.lift (Γ.rule (.len t) [x]) else lenB Γ t x
    | _ => EM.fail
  | .min => fun Γ _ as => bif as.any isSym then EM.lift (Γ.rule .min as) else EM.lift (minmax false as)
  | .max => fun Γ _ as => bif as.any isSym then EM.lift (Γ.rule .max as) else EM.lift (minmax true as)
  | .delete => fun Γ ts as => match as with
    | [m, k] => EM.have (ts[0]?) fun t => EM.bind (deleteV Γ t m k) fun _ => EM.pure noneV
    | _ => EM.fail
  | .clear => fun Γ ts as => match as with
    | [x] => EM.have (ts[0]?) fun t => EM.bind (clearV Γ t x) fun _ => EM.pure noneV
    | _ => EM.fail
  | _ => fun _ _ _ => EM.fail

def toBytes (Γ : Cx) (e : TypeId) (s : ByteArray) : EM Value :=
  EM.have (Γ.ty e) fun te => match te.u with
  | .int .u8 => EM.need (Nat.beq te.size (nat_lit 1)) <| EM.bind (newCells e (byteCells s) true true) fun a => EM.pure (.slice (some a) s.size s.size)
  | _ => EM.fail

def toStr (Γ : Cx) (e : TypeId) (x : Value) : EM Value :=
  EM.have (Γ.ty e) fun te => match te.u with
  | .int .u8 => match x with
    | .slice none _ _ => EM.pure (.string .empty)
    | .slice (some a) len _ => EM.bind (readCells a len) fun cs => EM.have (bytesOf cs) fun bs => EM.pure (.string ⟨bs.toArray⟩)
    | _ => EM.fail
  | _ => EM.fail

def convertV (Γ : Cx) (src dst : TypeId) (x : Value) : EM Value :=
  EM.have (Γ.ty src) fun ts => EM.have (Γ.ty dst) fun td =>
  match x with
  | .int _ n => match td.u with
    | .int k => EM.pure (intV k n)
    | .string => EM.pure (.string (Utf8.encode n))
    | _ => EM.fail
  | .string s => match td.u with
    | .string => match ts.u with
      | .string => EM.pure (.string s)
      | _ => EM.fail
    | .slice e => toBytes Γ e s
    | _ => EM.fail
  | .complex .f32 lo hi => match td.u with
    | .int .i64 => force (Nat.add lo (nat_lit 9223372036854775808)) fun l => force (Nat.add hi (nat_lit 9223372036854775808)) fun h => EM.pure (.complex .f64 l h)
    | _ => EM.fail
  | .slice a n c => match td.u with
    | .string => match ts.u with
      | .slice e => toStr Γ e (.slice a n c)
      | _ => EM.fail
    | _ => EM.fail
  | _ => EM.fail

/-! ### Operations -/
def args : List Operand → Env → Option (List Value)
  | [] => fun _ => some []
  | x :: l => fun T => Opt.go (look x T) fun v => Opt.go (args l T) fun r => some (v :: r)

def opt : Option Operand → Env → Option (Option Value)
  | none => fun _ => some none
  | some x => fun T => Opt.go (look x T) fun v => some (some v)

def nilOk : Value → Option Value
  | .pointer (some a) => some (.pointer (some a))
  | .func (.func f) a b => some (.func (.func f) a b)
  | .func (.yield f) a b => some (.func (.yield f) a b)
  | _ => none

def pickV (x y : Operand) (T : Env) : Value → Option Value
  | .bool t => bif t then look x T else look y T
  | _ => none

def fieldAddrV (Γ : Cx) (s : TypeId) (f : Nat) (a : Addr) : EM Value :=
  EM.have (Γ.ty s) fun ti => match ti.u with
  | .struct fs => EM.have (fs[f]?) fun fd => EM.have (Γ.ty fd.type) fun tf => EM.need (!Nat.beq tf.size (nat_lit 0)) (EM.pure (.pointer (some (addOff a fd.offset))))
  | _ => EM.fail

def fieldV (Γ : Cx) (t : TypeId) (f : Nat) (x : Value) : EM Value :=
  EM.have (Γ.ty t) fun ti => match ti.u with
  | .struct fs => match x with
    | .agg cs => EM.have (fs[f]?) fun fd => EM.lift (partV Γ fd.type cs.toList fd.offset)
    | _ => EM.fail
  | _ => EM.fail

def indexAddrV (Γ : Cx) (t : TypeId) (i : Nat) (x : Value) : EM Value :=
  EM.have (Γ.ty t) fun ti => match ti.u with
  | .array len elem => match x with
    | .pointer (some a) => EM.have (Γ.ty elem) fun te => EM.need (Nat.blt i len) (EM.pure (.pointer (some (addOff a (Nat.mul i te.size)))))
    | _ => EM.fail
  | .slice elem => match x with
    | .slice (some a) len _ => EM.have (Γ.ty elem) fun te => EM.need (Nat.blt i len) (EM.pure (.pointer (some (addOff a (Nat.mul i te.size)))))
    | _ => EM.fail
  | _ => EM.fail

def byteAt : List UInt8 → Nat → Option Value
  | [] => fun _ => none
  | b :: l => fun i => match i with
    | 0 => some (intV .u8 (.ofNat b.toNat))
    | i + 1 => byteAt l i

def indexV (Γ : Cx) (t : TypeId) (i : Nat) (x : Value) : EM Value :=
  EM.have (Γ.ty t) fun ti => match ti.u with
  | .array len elem => match x with
    | .agg cs => EM.have (Γ.ty elem) fun te => EM.need (Nat.blt i len) (EM.lift (partV Γ elem cs.toList (Nat.mul i te.size)))
    | _ => EM.fail
  | .string => match x with
    | .string s => EM.lift (byteAt s.data.toList i)
    | _ => EM.fail
  | _ => EM.fail

def buildSliceV (Γ : Cx) (t : TypeId) (len : Nat) (l : List (Nat × Value)) : EM Value :=
  EM.have (Γ.ty t) fun ti => EM.have (elemTy ti.u) fun elem => EM.have (Γ.ty elem) fun te =>
  EM.need (Nat.ble (Nat.mul len te.size) (nat_lit 1000000)) <|
  EM.have (lay (fun i => some (i * te.size, te.size)) l (repCells te.zero len)) fun cs =>
  EM.bind (newCells elem cs false false) fun a => EM.pure (.slice (some a) len len)

def makeSliceV (Γ : Cx) (t : TypeId) (n m : Nat) : EM Value :=
  EM.have (Γ.ty t) fun ti => EM.have (elemTy ti.u) fun elem => EM.have (Γ.ty elem) fun te =>
  EM.need (Nat.ble n m && !Nat.ble (nat_lit 100000000) (Nat.mul m (Nat.succ te.bytes))) <|
  bif Nat.ble (nat_lit 4000) (Nat.mul m te.size) then EM.bind (hnew (.zeros m elem)) fun i => EM.pure (.slice (some ⟨i, nat_lit 0, none⟩) n m) else
  EM.bind (newCells elem (repCells te.zero m) false false) fun a => EM.pure (.slice (some a) n m)

/-- a new row of so many cells as a number says of which it is known where it lies -/
def makeSym (Γ : Cx) (t : TypeId) (lo hi : Nat) : EM Value :=
  EM.have (Γ.ty t) fun ti => EM.have (elemTy ti.u) fun elem => EM.have (Γ.ty elem) fun te =>
  EM.need (Nat.ble (nat_lit 9223372036854775808) lo && !Nat.ble (nat_lit 1000000) (Nat.mul (Nat.sub hi (nat_lit 9223372036854775808)) (Nat.succ te.bytes))) (EM.pure (.chan none))

def sameTmp (l c : Operand) : Bool :=
  match l with
  | .tmp a => match c with
    | .tmp b => Nat.beq a b
    | _ => false
  | _ => false

def makeAny (Γ : Cx) (t : TypeId) (l c : Operand) (a b : Value) : EM Value :=
  match a with
  | .complex .f64 lo hi => EM.need (sameTmp l c) (makeSym Γ t lo hi)
  | a => EM.have (natOf a) fun n => EM.have (natOf b) fun m => makeSliceV Γ t n m

/-- a new channel -/
def makeChanV (Γ : Cx) (t : TypeId) (n : Nat) : EM Value :=
  EM.have (Γ.chan t) fun elem => EM.have (Γ.ty elem) fun te =>
  EM.need (!Nat.ble (nat_lit 1000000) (Nat.mul n (Nat.succ te.bytes))) (EM.bind (hnew (.chan n [])) fun i => EM.pure (.chan (some i)))

def undefV : Value := .tuple #[]

/-- the beginning of what is known by name alone -/
def cutV (Γ : Cx) (t : TypeId) (x : Value) (lo hi mx : Option Value) : EM Value :=
  match lo with
  | some _ => EM.fail
  | none => match hi with
    | none => EM.fail
    | some h => match mx with
      | some _ => EM.fail
      | none => EM.lift (Γ.rule (.cut t) [x, h])

def plainOp : Op → Cx → Env → EM Value
  | .move x => fun _ T => EM.lift (look x T)
  | .assign x => fun _ T => EM.lift (look x T)
  | .pick c a b => fun _ T => EM.have (look c T) fun v => EM.lift (pickV a b T v)
  | .alloc elem => fun Γ _ => EM.have (Γ.ty elem) fun ti => EM.bind (newCells elem ti.zero false false) fun a => EM.pure (.pointer (some a))
  | .box elem x => fun _ T => EM.have (look x T) fun v => EM.bind (newCells elem (cellsOf v) false false) fun a => EM.pure (.pointer (some a))
  | .build t ps => fun Γ T => EM.have (parts ps.toList T) fun l => EM.lift (buildV Γ t l)
  | .buildSlice t len ps => fun Γ T => EM.have (parts ps.toList T) fun l => buildSliceV Γ t len l
  | .load t x => fun Γ T => EM.have (look x T) fun v => EM.have (addrOf v) fun a => loadV Γ t a
  | .store t x y => fun Γ T => EM.have (look x T) fun v => EM.have (addrOf v) fun a => EM.have (look y T) fun u => EM.bind (storeV Γ t a u) fun _ => EM.pure undefV
  | .nilCheck x => fun _ T => EM.have (look x T) fun v => EM.lift (nilOk v)
  | .binOp op t x y _ => fun Γ T => EM.have (look x T) fun a => EM.have (look y T) fun b => bif isSym a || isSym b then EM.lift (Γ.rule (.bin op) [a, b]) else binV a Γ op t b
  | .unOp op _ x => fun Γ T => EM.have (look x T) fun a => bif isSym a then EM.lift (Γ.rule (.un op) [a]) else EM.lift (unV op a)
  | .convert s d x => fun Γ T => EM.have (look x T) fun a => bif isSym a then EM.lift (Γ.rule (.conv s d) [a]) else convertV Γ s d a
  | .makeFunc fn a b => fun _ T => match fn with
    | .func f => EM.have (args a.toList T) fun a' => EM.have (args b.toList T) fun b' => EM.pure (.func (.func f) a'.toArray b'.toArray)
    | _ => EM.fail
  | .makeChan t x => fun Γ T => EM.have (look x T) fun v => EM.have (natOf v) fun n => makeChanV Γ t n
  | .makeMap _ r => fun _ _ => match r with
    | none => EM.bind (hnew (.map [] (nat_lit 0))) fun i => EM.pure (.map (some i))
    | some _ => EM.fail
  | .makeSlice t l c => fun Γ T => EM.have (look l T) fun a => EM.have (look c T) fun b => makeAny Γ t l c a b
  | .slice t x lo hi mx => fun Γ T => EM.have (look x T) fun v => EM.have (opt lo T) fun a => EM.have (opt hi T) fun b => EM.have (opt mx T) fun c => bif isSym v then cutV Γ t v a b c else sliceV Γ t v a b c
  | .fieldAddr s x f => fun Γ T => EM.have (look x T) fun v => EM.have (addrOf v) fun a => fieldAddrV Γ s f a
  | .field t x f => fun Γ T => EM.have (look x T) fun v => fieldV Γ t f v
  | .indexAddr t x ix => fun Γ T => EM.have (look ix T) fun v => EM.have (natOf v) fun i => EM.have (look x T) fun u => indexAddrV Γ t i u
  | .index t x ix => fun Γ T => EM.have (look ix T) fun v => EM.have (natOf v) fun i => EM.have (look x T) fun u => indexV Γ t i u
  | .lookup t x k ok => fun Γ T => EM.have (look x T) fun v => EM.have (look k T) fun u => lookupV Γ t v u ok
  | .mapUpdate t m k x => fun Γ T => EM.have (look m T) fun a => EM.have (look k T) fun b => EM.have (look x T) fun c => EM.bind (updateV Γ t a b c) fun _ => EM.pure undefV
  | .insert t m k x => fun Γ T => EM.have (look m T) fun a => EM.have (look k T) fun b => EM.have (look x T) fun c => EM.bind (updateV Γ t a b c) fun _ => EM.pure undefV
  | .range t x => fun Γ T => EM.have (look x T) fun v => rangeV Γ t v
  | .next it isString => fun _ T => EM.have (look it T) fun v => nextV v isString
  | .entry it => fun _ T => EM.have (look it T) fun v => entryV v
  | .extract t ix => fun _ T => EM.have (look t T) fun v => match v with
    | .tuple vs => EM.lift (vs[ix]?)
    | _ => EM.fail
  | _ => fun _ _ => EM.fail

/-- The way out of a piece of code. -/
inductive Ex where
  | normal | ret
  | exit (id : Nat)

/-- What a frame holds: its temporaries, the marks among its deferred calls, the function, how many temporaries it has, the round that it is of. -/
structure Fm where
  T : Env
  ms : List Nat
  fn : Nat
  size : Nat
  round : Option Nat

/-- a call of a function (true); a round of a range over a function (false) -/
abbrev CallF := Bool → Nat → List Value → EM Value

def callV (call : CallF) (as : List Value) : Value → EM Value
  | .func fn first captured => match fn with
    | .func g => call true g (first.toList ++ as ++ captured.toList)
    | .yield l => call false l (first.toList ++ as)
    | _ => EM.fail
  | _ => EM.fail

def callOp (c : Call) : Cx → CallF → Env → EM Value :=
  match c.callee with
  | .builtin b => fun Γ _ T => EM.have (args c.args.toList T) fun as => builtinV b Γ c.argTypes as
  | .invoke _ _ => fun _ _ _ => EM.fail
  | .value f => fun _ call T => EM.have (look f T) fun v => EM.have (args c.args.toList T) fun as => callV call as v

def anyOp (op : Op) : Cx → CallF → Env → EM Value :=
  match op with
  | .call c => callOp c
  | op => fun Γ _ T => plainOp op Γ T

/-- Is the operation to run? none: not known. -/
def wants (ops : Array Oper) (g : Option (Nat × Bool)) : Env → Option Bool :=
  match g with
  | none => fun _ => some true
  | some p => fun T => Opt.go ((ops[p.1]?).bind (·.dst)) fun d => Opt.go (T.get d) fun v => match v with
    | .bool b => some (b == p.2)
    | .chan _ | .float _ _ => none
    | _ => some false

def put (dst : Option Nat) : Nat → Env → Value → Option Env :=
  match dst with
  | some d => fun size T v => bif Nat.blt d size then some (T.set d (some v)) else none
  | none => fun _ T _ => some T

/-- Operations in the order of the text. -/
def runOps (Γ : Cx) (call : CallF) (size : Nat) (ops : Array Oper) : List Oper → Env → EM Env
  | [] => fun T => EM.pure T
  | o :: rest => fun T => EM.have (wants ops o.guard T) fun b =>
    bif b then EM.bind (anyOp o.op Γ call T) fun v => EM.have (put o.dst size T v) fun T' => runOps Γ call size ops rest T'
    else EM.have (put o.dst size T undefV) fun T' => runOps Γ call size ops rest T'

/-- What one operation read and wrote, and the blocks that it made. -/
structure Foot where
  rd : Tr Unit
  wr : Tr Unit
  lo : Nat
  hi : Nat

/-- none of n blocks from b on is touched -/
def noneMade (rd wr : Tr Unit) : Nat → Nat → Bool
  | 0 => fun _ => true
  | n + 1 => fun b => (rd.get (key b (nat_lit 0))).isNone && (wr.get (key b (nat_lit 0))).isNone && noneMade rd wr n (Nat.succ b)

/-- What one operation touched, held against the ones before. -/
def apartFrom (b : Nat) (f : Foot) : List (Nat × Foot) → Bool
  | [] => true
  | e :: l => (Nat.testBit b e.1 || (f.wr.apart e.2.rd && f.wr.apart e.2.wr && f.rd.apart e.2.wr && noneMade f.rd f.wr (Nat.sub e.2.hi e.2.lo) e.2.lo)) && apartFrom b f l

def emptyTr {α : Type} : Tr α → Bool
  | .e => true
  | .n _ _ _ => false

def seeing (i : Nat) (f : Foot) (seen : List (Nat × Foot)) : List (Nat × Foot) :=
  bif emptyTr f.rd && emptyTr f.wr && Nat.beq f.lo f.hi then seen else (i, f) :: seen

/-- Run with fresh marks; what it marked. -/
def fresh (m : EM Value) : EM (Value × Foot) := fun s =>
  Opt.go (m { h := s.h, nx := s.nx, wm := s.nx, rd := .e, wr := .e }) fun p =>
    some ((p.1, ⟨p.2.rd, p.2.wr, s.nx, p.2.nx⟩), { h := p.2.h, nx := p.2.nx, wm := s.wm, rd := s.rd.or p.2.rd, wr := s.wr.or p.2.wr })

/-- Operations whose order is open: in the order of the text, each one's places told apart from those of the ones that it need not follow. -/
def runDraw (Γ : Cx) (call : CallF) (size : Nat) (ops : Array Oper) : List (Oper × Nat × Nat) → List (Nat × Foot) → Env → EM Env
  | [] => fun _ T => EM.pure T
  | o :: rest => fun seen T => EM.have (wants ops o.1.guard T) fun b =>
    bif b then EM.bind (fresh (anyOp o.1.op Γ call T)) fun r =>
      EM.need (apartFrom o.2.2 r.2 seen) <|
      EM.have (put o.1.dst size T r.1) fun T' => runDraw Γ call size ops rest (seeing o.2.1 r.2 seen) T'
    else EM.have (put o.1.dst size T undefV) fun T' => runDraw Γ call size ops rest seen T'

/-- the operands that an operation looks at -/
def looksL : Op → List Operand
  | .move x | .assign x | .box _ x | .load _ x | .nilCheck x | .unOp _ _ x | .convert _ _ x | .fieldAddr _ x _ | .field _ x _ | .range _ x | .next x _ | .entry x | .extract x _ | .makeChan _ x => [x]
  | .pick c a b => [c, a, b]
  | .build _ ps | .buildSlice _ _ ps => ps.toList.map (·.2)
  | .store _ a v | .binOp _ _ a v _ | .makeSlice _ a v | .indexAddr _ a v | .index _ a v | .lookup _ a v _ => [a, v]
  | .makeFunc _ a b => a.toList ++ b.toList
  | .slice _ x l h m => x :: (l.toList ++ h.toList ++ m.toList)
  | .mapUpdate _ m k v | .insert _ m k v => [m, k, v]
  | .call c => match c.callee with
    | .value f => f :: c.args.toList
    | _ => c.args.toList
  | _ => []

def tmpsL : List Operand → List Nat
  | [] => []
  | .tmp t :: l => t :: tmpsL l
  | _ :: l => tmpsL l

def guardL (ops : Array Oper) : Option (Nat × Bool) → List Nat
  | none => []
  | some p => match (ops[p.1]?).bind (·.dst) with
    | some d => [d]
    | none => []

def inL (t : Nat) : List Nat → Bool
  | [] => false
  | u :: l => Nat.beq u t || inL t l

def dstIn (d : Option Nat) (l : List Nat) : Bool :=
  match d with
  | some t => inL t l
  | none => false

/-- one that looks at what another writes is ordered to it; the order points back -/
def regionOk (ops : Array Oper) : List (Oper × Nat × Nat) → List (Nat × Option Nat × List Nat) → Bool
  | [] => fun _ => true
  | o :: rest => fun seen =>
    o.1.after.toList.all (fun e => !Region.binds .any e || Nat.blt e.on o.2.1) &&
    (seen.all (fun e => Nat.testBit o.2.2 e.1 || (!dstIn e.2.1 (tmpsL (looksL o.1.op) ++ guardL ops o.1.guard) && !dstIn o.1.dst e.2.2)) &&
      regionOk ops rest ((o.2.1, o.1.dst, tmpsL (looksL o.1.op) ++ guardL ops o.1.guard) :: seen))

def numbered (ops : Array Oper) : List (Oper × Nat × Nat) :=
  ops.toList.zipIdx.map fun p => (p.1, p.2, (Region.before ops).getD p.2 0)

/-- Each temporary is written once in the region: m bears those that were. -/
def dstsOk : List Oper → Nat → Bool
  | [] => fun _ => true
  | o :: l => fun m => match o.dst with
    | none => dstsOk l m
    | some d => bif Nat.testBit m d then false else force (Nat.lor m (Nat.shiftLeft (nat_lit 1) d)) fun m => dstsOk l m

def runRegion (draw : Bool) (ops : Array Oper) : Cx → CallF → Fm → EM (Ex × Fm) :=
  bif draw then
    bif dstsOk ops.toList (nat_lit 0) && regionOk ops (numbered ops) [] then fun Γ call F => EM.bind (runDraw Γ call F.size ops (numbered ops) [] F.T) fun T => EM.pure (.normal, { F with T := T })
    else fun _ _ _ => EM.fail
  else fun Γ call F => EM.bind (runOps Γ call F.size ops ops.toList F.T) fun T => EM.pure (.normal, { F with T := T })

def bindParams (size : Nat) : List Nat → List Value → Env → Option Env
  | [] => fun vs T => match vs with | [] => some T | _ => none
  | p :: ps => fun vs T => match vs with
    | [] => none
    | v :: vs => Opt.go (put (some p) size T v) fun T' => bindParams size ps vs T'

/-- the code behind the first piece -/
def andThen (k : Fm → EM (Ex × Fm)) (r : Ex × Fm) : EM (Ex × Fm) :=
  match r.1 with
  | .normal => k r.2
  | _ => EM.pure r

def outOf (id : Nat) (r : Ex × Fm) : EM (Ex × Fm) :=
  match r.1 with
  | .exit i => bif Nat.beq i id then EM.pure (.normal, r.2) else EM.pure r
  | _ => EM.pure r

def boolOf : Value → Option Bool
  | .bool b => some b
  | _ => none

/-- the mark that a range over a function lays, or the one that is there -/
def markFor (F : Fm) : EM (Nat × List Nat) :=
  match F.round with
  | none => EM.bind (hnew .mark) fun m => EM.pure (m, [m])
  | some l => EM.bind (hget l) fun o => match o with
    | .loop _ _ _ _ _ _ _ _ m => EM.pure (m, [])
    | _ => EM.fail

def endRange (F : Fm) (l : Nat) : EM (Ex × Fm) :=
  EM.bind (hget l) fun o => match o with
  | .loop st pend fn T0 size ps as bd m =>
    EM.need (!Nat.beq st (nat_lit 1)) <| EM.bind (hset l (.loop (nat_lit 3) pend fn T0 size ps as bd m)) fun _ =>
    match pend with
    | none => EM.pure (.normal, F)
    | some .ret => EM.pure (.ret, F)
    | some (.exit id) => EM.pure (.exit id, F)
    | _ => EM.fail
  | _ => EM.fail

def isFn : Value → Bool
  | .func (.func _) _ _ => true
  | _ => false

def runRange (f : Operand) (params : Array Tmp) (assign body : Code) : CallF → Fm → EM (Ex × Fm) := fun call F =>
  EM.have (look f F.T) fun v => EM.need (isFn v) <| EM.bind (markFor F) fun mk =>
  EM.bind (hnew (.loop (nat_lit 0) none F.fn F.T F.size params.toList assign body mk.1)) fun l =>
  EM.bind (callV call [.func (.yield l) #[] #[]] v) fun _ => endRange { F with ms := mk.2 ++ F.ms } l

--[core
def runLoop (body : Fm → EM (Ex × Fm)) (n : Nat) : Fm → EM (Ex × Fm) :=
  Nat.rec (motive := fun _ => Fm → EM (Ex × Fm)) (fun _ => EM.fail) (fun _ ih F => EM.bind (body F) (andThen ih)) n

def runCode (c : Code) : Cx → CallF → Nat → Fm → EM (Ex × Fm) :=
  Code.rec (motive := fun _ => Cx → CallF → Nat → Fm → EM (Ex × Fm))
    (fun _ _ _ F => EM.pure (.normal, F))
    (fun _ ops draw => fun Γ call _ F => runRegion draw ops Γ call F)
    (fun _ _ ia ib Γ call n F => EM.bind (ia Γ call n F) (andThen fun F' => ib Γ call n F'))
    (fun c _ _ ix iy Γ call n F => EM.have (look c F.T) fun v => EM.have (boolOf v) fun b => Bool.rec (motive := fun _ => EM (Ex × Fm)) (iy Γ call n F) (ix Γ call n F) b)
    (fun id _ ih Γ call n F => EM.bind (ih Γ call n F) (outOf id))
    (fun _ ih Γ call n F => runLoop (fun F' => ih Γ call n F') n F)
    (fun f ps assign body _ _ => fun _ call _ F => runRange f ps assign body call F)
    (fun id _ _ _ F => EM.pure (.exit id, F))
    (fun _ ih Γ call n F => ih Γ call n F)
    (fun _ _ _ _ F => EM.pure (.normal, F))
    (fun _ _ _ _ _ => EM.fail)
    (fun _ _ _ F => EM.pure (.ret, F))
    (fun _ _ _ _ _ => EM.fail)
    c
--core]

def bindArgs : List Value → Nat → Env → Env
  | [] => fun _ T => T
  | v :: l => fun i T => bindArgs l (Nat.succ i) (T.set i (some v))

def readResult (Γ : Cx) (T : Env) : ResultVar → EM Value
  | .tmp t => EM.lift (T.get t)
  | .cell a t => EM.have (T.get a) fun v => EM.have (addrOf v) fun a => loadV Γ t a

def readResults (Γ : Cx) (T : Env) : List ResultVar → EM (List Value)
  | [] => EM.pure []
  | r :: l => EM.bind (readResult Γ T r) fun v => EM.bind (readResults Γ T l) fun vs => EM.pure (v :: vs)

def packed : List Value → Value
  | [v] => v
  | vs => .tuple vs.toArray

def isMark : IObj → Bool
  | .mark => true
  | _ => false

def checkMarks : List Nat → EM Unit
  | [] => EM.pure ()
  | m :: l => EM.bind (hget m) fun o => EM.need (isMark o) (EM.bind (hset m .dead) fun _ => checkMarks l)

def findByte (c : Nat) : List UInt8 → Nat → Option Nat
  | [] => fun _ => none
  | b :: l => fun i => bif Nat.beq b.toNat c then some i else findByte c l (Nat.succ i)

def countB (c : Nat) : List UInt8 → Nat → Nat
  | [] => fun n => n
  | b :: l => fun n => countB c l (bif Nat.beq b.toNat c then Nat.succ n else n)

def isSp (b : UInt8) : Bool := Nat.beq b.toNat (nat_lit 32) || (Nat.ble (nat_lit 9) b.toNat && Nat.ble b.toNat (nat_lit 13))

def fieldsGo : List UInt8 → List UInt8 → List (List UInt8)
  | [] => fun cur => match cur with
    | [] => []
    | _ :: _ => [cur]
  | b :: l => fun cur =>
    bif isSp b then
      match cur with
      | [] => fieldsGo l []
      | _ :: _ => cur :: fieldsGo l []
    else fieldsGo l (cur ++ [b])

def splitGo (c : Nat) : List UInt8 → List UInt8 → List (List UInt8)
  | [] => fun cur => [cur]
  | b :: l => fun cur => bif Nat.beq b.toNat c then cur :: splitGo c l [] else splitGo c l (cur ++ [b])

def ascii (l : List UInt8) : Bool := l.all fun b => Nat.ble b.toNat (nat_lit 127)

def newStrings (t : Nat) (l : List (List UInt8)) : EM Value :=
  EM.bind (newCells t (l.map fun x => .string ⟨x.toArray⟩) false false) fun a => force l.length fun n => EM.pure (.slice (some a) n n)

def byteNum : Value → Option Nat
  | .int .u8 (.ofNat c) => bif Nat.ble (nat_lit 256) c then none else some c
  | _ => none

def strV : Value → Option (List UInt8)
  | .string s => some s.data.toList
  | _ => none

def oneByte : List UInt8 → Option Nat
  | [c] => some c.toNat
  | _ => none

def noFunc : Value → Bool
  | .func .. => false
  | _ => true

def putV (n c : Nat) (l : List Value) : EM Value :=
  EM.need (Nat.beq l.length n && l.all flat) (EM.bind (hget c) fun o => match o with
    | .chan cap buf => EM.need (Nat.blt buf.length cap) (EM.bind (hset c (.chan cap (buf ++ [.agg l.toArray]))) fun _ => EM.pure (.bool true))
    | _ => EM.fail)

def drainV (n t c : Nat) : EM Value :=
  EM.bind (hget c) fun o => match o with
    | .chan cap [.agg l] => EM.need (Nat.beq l.toList.length n && l.toList.all flat) (EM.bind (hset c (.chan cap [])) fun _ =>
      EM.bind (newCells t l.toList true false) fun a => EM.pure (.slice (some a) (nat_lit 1) (nat_lit 1)))
    | _ => EM.fail

def extV : Ext → Cx → List Value → EM Value
  | .indexByte => fun _ as => match as with
    | [s, c] => EM.have (strV s) fun s => EM.have (byteNum c) fun c => match findByte c s (nat_lit 0) with
      | some i => EM.pure (goI i)
      | none => EM.pure (.int .i64 (-1))
    | _ => EM.fail
  | .countByte => fun _ as => match as with
    | [s, c] => EM.have (strV s) fun s => EM.have (byteNum c) fun c => EM.pure (goI (countB c s (nat_lit 0)))
    | _ => EM.fail
  | .fields => fun Γ as => match as with
    | [s] => EM.have (strV s) fun s => EM.need (ascii s && Nat.ble s.length (nat_lit 1000000)) (newStrings Γ.str (fieldsGo s []))
    | _ => EM.fail
  | .split => fun Γ as => match as with
    | [s, p] => EM.have (strV s) fun s => EM.have (strV p) fun p => EM.have (oneByte p) fun c => EM.need (Nat.ble s.length (nat_lit 1000000)) (newStrings Γ.str (splitGo c s []))
    | _ => EM.fail
  | .pure F => fun _ as => EM.need (as.all noFunc) (EM.lift (F as))
  | .put n => fun _ as => match as with
    | [.chan (some c), .agg l] => putV n c l.toList
    | _ => EM.fail
  | .drain n t => fun _ as => match as with
    | [.chan (some c)] => drainV n t c
    | _ => EM.fail
  | .peek B G => fun _ as => EM.need (as.all noFunc) (EM.have (B as) fun i => EM.bind (hget i) fun o => EM.lift (G as o))

/-- a call by a function's text -/
def callBody (Γ : Cx) (call : CallF) (rounds f : Nat) (as : List Value) (fn : Func) : EM Value :=
  EM.have fn.body fun c => EM.need (Nat.ble as.length fn.ntmps && Nat.ble fn.ntmps (nat_lit 100000)) <|
  EM.bind (runCode c Γ call rounds { T := bindArgs as (nat_lit 0) .e, ms := [], fn := f, size := fn.ntmps, round := none }) fun r =>
  match r.1 with
  | .exit _ => EM.fail
  | _ => EM.bind (checkMarks r.2.ms) fun _ => EM.bind (readResults Γ r.2.T fn.results.toList) fun vs => EM.pure (packed vs)

def exCode : Ex → Option Code
  | .normal => none
  | .ret => some .ret
  | .exit id => some (.exit id)

def endRound (l : Nat) (x : Ex) : EM Value :=
  EM.bind (hget l) fun o => match o with
  | .loop _ _ fn T size ps as bd mk =>
    match x with
    | .normal => EM.bind (hset l (.loop (nat_lit 0) none fn T size ps as bd mk)) fun _ => EM.pure (.bool true)
    | x => EM.bind (hset l (.loop (nat_lit 2) (exCode x) fn T size ps as bd mk)) fun _ => EM.pure (.bool false)
  | _ => EM.fail

def isNormal : Ex → Bool
  | .normal => true
  | _ => false

def callRound (Γ : Cx) (call : CallF) (rounds l : Nat) (as : List Value) : EM Value :=
  EM.bind (hget l) fun o => match o with
  | .loop st _ fn T size ps assign body _ =>
    EM.need (Nat.ble size (nat_lit 100000)) <| EM.have (bindParams size ps as T) fun T1 =>
    EM.bind (runCode assign Γ call rounds { T := T1, ms := [], fn, size, round := some l }) fun r =>
    EM.need (isNormal r.1 && Nat.beq st (nat_lit 0)) <|
    EM.bind (hget l) fun o' => match o' with
    | .loop st' pend' fn' T' size' ps' as' bd' mk' => EM.need (Nat.beq st' (nat_lit 0)) <|
      EM.bind (hset l (.loop (nat_lit 1) pend' fn' T' size' ps' as' bd' mk')) fun _ =>
      EM.bind (runCode body Γ call rounds r.2) fun q => endRound l q.1
    | _ => EM.fail
  | _ => EM.fail

--[core
def callF (Γ : Cx) (rounds : Nat) (n : Nat) : CallF :=
  Nat.rec (motive := fun _ => CallF) (fun _ _ _ => EM.fail)
    (fun _ ih isF f as => Bool.rec (motive := fun _ => EM Value) (callRound Γ ih rounds f as)
      (Option.rec (motive := fun _ => EM Value) (EM.have (Γ.fn f) fun fn => callBody Γ ih rounds f as fn) (fun e => extV e Γ as) (Γ.ext f)) isF) n
--core]

/-- What is known of the types and functions of a program. -/
def isAggT : TypeDesc → Bool
  | .struct _ | .array _ _ => true
  | _ => false

/-- a type's zero value is plain, and of its form -/
def zeroOk (agg : Bool) (size : Nat) (z : Value) : Bool :=
  Nat.beq (cellsOf z).length size && (cellsOf z).all flat && (match z with | .agg _ => agg | _ => !agg)

def tiOf (P : Program) (t : Nat) : Option TI :=
  Opt.go (P.info? t) fun i => Opt.go (P.underlying t) fun u => Opt.go i.zero fun z =>
    bif !zeroOk (isAggT u) i.size z then none else some { u, size := i.size, bytes := i.bytes, zero := cellsOf z, agg := isAggT u }

def findExt (f : Nat) : List (Nat × Ext) → Option Ext
  | [] => none
  | p :: l => bif Nat.beq p.1 f then some p.2 else findExt f l

def findEq (t : Nat) : List (Nat × List Leaf) → Option (List Leaf)
  | [] => none
  | p :: l => bif Nat.beq p.1 t then some p.2 else findEq t l

/-- xs: functions that are not run by their text; qs: types whose values are compared cell by cell -/
def cxOf (P : Program) (xs : List (Nat × Ext)) (qs : List (Nat × List Leaf)) (fx : Nat → Option Obj) : Cx := { fn := fun f => P.funcs[f]?, ty := tiOf P, ext := fun f => findExt f xs, str := P.rt.string, eqs := fun t => findEq t qs, fix := fx, chan := fun t => match P.underlying t with | some (.chan _ e) => some e | _ => none, σ := fun _ => .nilFunc, rule := fun _ _ => none, base := fun _ => none }

/-- the same, with names and rules for them -/
def cxSym (P : Program) (xs : List (Nat × Ext)) (qs : List (Nat × List Leaf)) (fx : Nat → Option Obj) (σ : Nat → Value) (rule : ROp → List Value → Option Value) (base : Nat → Option RB) : Cx := { cxOf P xs qs fx with σ := σ, rule := rule, base := base }

def boot (n : Nat) (gs : List (Nat × IObj)) : HS := { h := gs.foldl (fun t g => t.set g.1 (some g.2)) .e, nx := n, wm := n, rd := .e, wr := .e }

end
end Go.Ideal
