/- Own work: an evaluator of closed runs over the model, and why it is right. Part of the proof; holds for any program. -/
import Derived.Calls
import Derived.Laws.Sem
import Derived.Laws.Strings
import Derived.Laws.StructEq
import Derived.Laws.World
import GoSem.Dispatch
import GoSem.Machine.Exec
set_option linter.unusedVariables false
set_option linter.unusedSimpArgs false
set_option linter.unusedSectionVars false
/- An abstract evaluator for runs that take no input: its data. Nothing here is about one program. -/
namespace Go.Abs

/-! ## numbers of blocks, trees keyed by them -/
inductive Pos where
  | H
  | O (p : Pos)
  | I (p : Pos)
  deriving DecidableEq

def Pos.inc : Pos → Pos
  | .H => .O .H
  | .O p => .I p
  | .I p => .O p.inc
def Pos.toNat : Pos → Nat
  | .H => 1
  | .O p => 2 * p.toNat
  | .I p => 2 * p.toNat + 1
def Pos.beq : Pos → Pos → Bool
  | .H, .H => true
  | .O p, .O q => p.beq q
  | .I p, .I q => p.beq q
  | _, _ => false
def posAux : Nat → Nat → Pos
  | 0, _ => .H
  | n + 1, k => bif Nat.ble k 1 then .H else bif Nat.beq (Nat.mod k 2) 0 then .O (posAux n (Nat.div k 2)) else .I (posAux n (Nat.div k 2))
/-- the key of a number -/
def posOf (k : Nat) : Pos := posAux (Nat.succ k) (Nat.succ k)

inductive PTree (α : Type) where
  | leaf
  | node (l : PTree α) (v : Option α) (r : PTree α)

namespace PTree
variable {α : Type}
def get : Pos → PTree α → Option α
  | .H, t => match t with | .leaf => none | .node _ v _ => v
  | .O p, t => match t with | .leaf => none | .node l _ _ => get p l
  | .I p, t => match t with | .leaf => none | .node _ _ r => get p r
def put : Pos → α → PTree α → PTree α
  | .H, x, t => match t with | .leaf => .node .leaf (some x) .leaf | .node l _ r => .node l (some x) r
  | .O p, x, t => match t with | .leaf => .node (put p x .leaf) none .leaf | .node l v r => .node (put p x l) v r
  | .I p, x, t => match t with | .leaf => .node .leaf none (put p x .leaf) | .node l v r => .node l v (put p x r)
def orElse : Option α → Option α → Option α
  | some x, _ => some x
  | none, y => y
/-- what the first one has, else what the second one has -/
def union : PTree α → PTree α → PTree α
  | .leaf, t => t
  | .node l v r, t => match t with
    | .leaf => .node l v r
    | .node l' v' r' => .node (union l l') (orElse v v') (union r r')
def build : List α → Pos → PTree α → PTree α
  | [], _, t => t
  | x :: l, p, t => build l p.inc (t.put p x)
/-- a list's members by their places (the key of place i: posOf i) -/
def ofList (l : List α) : PTree α := build l .H .leaf
end PTree

/-! ## values -/
inductive AVal where
  | bool (b : Bool)
  | int (k : IntKind) (n : Int)
  | str (s : List Nat)
  | ptr (b : Pos) (off : Nat)
  | nilPtr
  | slice (b : Pos) (off len cap : Nat)
  | sliceO (b : Pos) (off len es : Nat)   -- to the end of a block of which only a part is known; es: an element's cells
  | nilSlice
  | map (b : Pos)
  | nilMap
  | func (fn : FuncId) (first captured : List AVal)
  | yield (l : Pos)
  | nilFunc
  | iface (t : Nat) (v : AVal)
  | nilIface
  | agg (cs : List AVal)
  | tuple (vs : List AVal)
  deriving Inhabited

def AVal.cells : AVal → List AVal
  | .agg cs => cs
  | v => [v]

/-- may it stand in one cell? -/
def AVal.one : AVal → Bool
  | .agg _ => false
  | .tuple _ => false
  | _ => true

def allOne : List AVal → Bool
  | [] => true
  | v :: l => bif v.one then allOne l else false

def bytesOf (s : ByteArray) : List Nat := s.data.toList.map UInt8.toNat

mutual
def ofValue : Value → Option AVal
  | .bool b => some (.bool b)
  | .int k n => some (.int k n)
  | .string s => some (.str (bytesOf s))
  | .pointer none => some .nilPtr
  | .slice none 0 0 => some .nilSlice
  | .map none => some .nilMap
  | .func (.func f) ⟨first⟩ ⟨captured⟩ => match ofValues first, ofValues captured with
    | some a, some b => some (.func f a b)
    | _, _ => none
  | .nilFunc => some .nilFunc
  | .iface t v => match ofValue v with | some a => some (.iface t a) | none => none
  | .nilIface => some .nilIface
  | .agg ⟨cs⟩ => match ofValues cs with | some l => some (.agg l) | none => none
  | .tuple ⟨cs⟩ => match ofValues cs with | some l => some (.tuple l) | none => none
  | _ => none
def ofValues : List Value → Option (List AVal)
  | [] => some []
  | v :: vs => match ofValue v, ofValues vs with
    | some a, some b => some (a :: b)
    | _, _ => none
end

/-- a deferred call: of a function, or the mark of a range over a function -/
inductive ADef where
  | call (f : FuncId) (captured args : List AVal)
  | mark (b : Pos)
  deriving Inhabited

/-- a frame's temporaries: those of the region that was done last, in front; those that stay -/
structure Env where
  rc : List (Nat × AVal)
  tm : PTree AVal

structure ALoop where
  state : LoopState
  pending : Option Code
  fn : FuncId
  msk : Nat
  nt : Nat
  env : Env
  params : List Tmp
  assign : Code
  body : Code
  defers : Pos

structure AEntry where
  k : AVal
  v : AVal
  born : Nat

inductive AObj where
  | cells (c : List AVal) (opn : Nat) (str ro : Bool)   -- opn: 0: all of the block is known; else an element's cells: only its front is
  | map (es : List AEntry) (clock : Nat)
  | strIter (s : List Nat) (pos : Nat)
  | mapIter (m : Option Pos) (since : Nat) (seen : List Nat)   -- the stamps that were seen, the last one first
  | loop (l : ALoop)
  | deferred (calls : Option (List ADef))
  | gone

inductive AItem where
  | code (c : Code)
  | inBlock (id : Nat)
  | inLoop (body : Code)
  | inScope (body : Code)
  | inRegion (whole : Array Oper) (rest : List Oper)
  | inRangeFunc (loop : Pos)
  | endRangeFunc (loop : Pos)
  | beginRound
  | lost          -- what was still to do where a panic left a region: never looked at again

inductive AMode where
  | run
  | returning
  | panicking (chain : List (AVal × Bool))

/-- what of a frame stays the same -/
structure FInfo where
  fn : FuncId
  msk : Nat
  nt : Nat
  dk : Bool            -- was it deferred?
  rnd : Option Pos     -- of which loop over a function is it a round?

structure AFrame where
  fi : FInfo
  env : Env
  todo : List AItem
  defers : List ADef
  mode : AMode

structure Heap where
  top : PTree AObj
  next : Pos

structure AState where
  fr : AFrame
  callers : List AFrame
  heap : Heap

structure AProg where
  types : PTree TypeInfo
  funcs : PTree Func
  masks : PTree Nat
  apart : PTree Unit         -- functions whose calls are run apart, their ways met again behind them
  clones : PTree Unit        -- the library's maps.clone
  plain : PTree Unit         -- struct types that the model compares field by field, with nothing asked ahead

def undefA : AVal := .tuple []

section
variable (A : AProg)
def info (t : TypeId) : Option TypeInfo := A.types.get (posOf t)
def und (t : TypeId) : Option TypeDesc :=
  match A.types.get (posOf t) with
  | some i => match i.desc with
    | .named _ u => match A.types.get (posOf u) with | some j => some j.desc | none => none
    | d => some d
  | none => none
def sizeA (t : TypeId) : Option Nat := match A.types.get (posOf t) with | some i => some i.size | none => none
def bytesA (t : TypeId) : Option Nat := match A.types.get (posOf t) with | some i => some i.bytes | none => none
def isAggA (t : TypeId) : Option Bool := match und A t with | some (.struct _) => some true | some (.array _ _) => some true | some _ => some false | none => none
def zeroA (t : TypeId) : Option AVal := match A.types.get (posOf t) with | some i => (match i.zero with | some v => ofValue v | none => none) | none => none
def fieldsA (t : TypeId) : Option (List Field) := match und A t with | some (.struct fs) => some fs.toList | _ => none
end

/-! ## temporaries -/
def rget : List (Nat × AVal) → Nat → Option AVal
  | [], _ => none
  | (t, v) :: l, k => bif Nat.beq t k then some v else rget l k
def Env.get (e : Env) (t : Nat) : Option AVal := match rget e.rc t with | some v => some v | none => e.tm.get (posOf t)
/-- set one that stays, if it is to stay -/
def stay (msk t : Nat) (v : AVal) (tm : PTree AVal) : PTree AVal := bif Nat.testBit msk t then tm.put (posOf t) v else tm
def flush (msk : Nat) : List (Nat × AVal) → PTree AVal → PTree AVal
  | [], tm => tm
  | (t, v) :: l, tm => stay msk t v (flush msk l tm)

def aeval (e : Env) : Operand → Option AVal
  | .tmp t => e.get t
  | .const v => ofValue v
  | .global g => bif Nat.blt g 32 then some (.ptr (posOf g) 0) else none
  | .func f => some (.func f [] [])

/-! ## lists -/
def takeN {α : Type} : Nat → List α → Option (List α)
  | 0, _ => some []
  | n + 1, l => match l with
    | x :: l => (match takeN n l with | some r => some (x :: r) | none => none)
    | [] => none
def dropN {α : Type} : Nat → List α → List α
  | 0, l => l
  | n + 1, l => match l with
    | _ :: l => dropN n l
    | [] => []
def nth {α : Type} : Nat → List α → Option α
  | 0, l => match l with | x :: _ => some x | [] => none
  | n + 1, l => match l with | _ :: l => nth n l | [] => none
/-- the members of xs laid over those of l from its front on -/
def over {α : Type} : List α → List α → Option (List α)
  | [], l => some l
  | y :: ys, l => match l with
    | _ :: l => (match over ys l with | some r => some (y :: r) | none => none)
    | [] => none
def splice {α : Type} : Nat → List α → List α → Option (List α)
  | 0, xs, l => over xs l
  | n + 1, xs, l => match l with
    | x :: l => (match splice n xs l with | some r => some (x :: r) | none => none)
    | [] => none
def repl {α : Type} : Nat → List α → List α
  | 0, _ => []
  | n + 1, xs => xs ++ repl n xs
def setNth {α : Type} : Nat → α → List α → List α
  | 0, y, l => match l with | _ :: l => y :: l | [] => []
  | n + 1, y, l => match l with | x :: l => x :: setNth n y l | [] => []
def delNth {α : Type} : Nat → List α → List α
  | 0, l => match l with | _ :: l => l | [] => []
  | n + 1, l => match l with | x :: l => x :: delNth n l | [] => []

/-! ## the heap -/
def lowGet : List (PTree AObj) → Pos → Option AObj
  | [], _ => none
  | t :: l, b => match t.get b with | some o => some o | none => lowGet l b
/-- what block b is: as it was written last, else as it lay when the run began -/
def hget (L : List (PTree AObj)) (h : Heap) (b : Pos) : Option AObj := match h.top.get b with | some o => some o | none => lowGet L b
def Heap.set (h : Heap) (b : Pos) (o : AObj) : Heap := match h with | ⟨t, n⟩ => ⟨t.put b o, n⟩
def Heap.new (h : Heap) (o : AObj) : Heap := match h with | ⟨t, n⟩ => ⟨t.put n o, n.inc⟩

/-! ## numbers, texts -/
def wrapA (k : IntKind) (n : Int) : Int :=
  match k with
  | .i64 => match n with
    | .ofNat m => bif Nat.ble 9223372036854775808 m then IntKind.wrap .i64 (.ofNat m) else .ofNat m
    | .negSucc m => IntKind.wrap .i64 (.negSucc m)
  | k => k.wrap n
def beqInt : Int → Int → Bool
  | .ofNat a, n => match n with | .ofNat b => Nat.beq a b | .negSucc _ => false
  | .negSucc a, n => match n with | .ofNat _ => false | .negSucc b => Nat.beq a b
def leInt : Int → Int → Bool
  | .ofNat a, n => match n with | .ofNat b => Nat.ble a b | .negSucc _ => false
  | .negSucc a, n => match n with | .ofNat _ => true | .negSucc b => Nat.ble b a
def beqKind : IntKind → IntKind → Bool
  | .i64, .i64 => true
  | .u64, .u64 => true
  | .u8, .u8 => true
  | .i32, .i32 => true
  | .u32, .u32 => true
  | .u16, .u16 => true
  | .i16, .i16 => true
  | .i8, .i8 => true
  | _, _ => false
def beqStr : List Nat → List Nat → Bool
  | [], l => match l with | [] => true | _ :: _ => false
  | a :: x, l => match l with | [] => false | b :: y => bif Nat.beq a b then beqStr x y else false
def beqBool : Bool → Bool → Bool
  | true, b => b
  | false, b => !b

def intOp (op : BinOp) (k : IntKind) (a b : Int) : Option AVal :=
  match op with
  | .add => some (.int k (wrapA k (a + b)))
  | .sub => some (.int k (wrapA k (a - b)))
  | .mul => some (.int k (wrapA k (a * b)))
  | .quo => bif beqInt b 0 then none else some (.int k (k.wrap (a.tdiv b)))
  | .rem => bif beqInt b 0 then none else some (.int k (a.tmod b))
  | .and => some (.int k (k.wrap (BitVec.ofInt k.bits a &&& BitVec.ofInt k.bits b).toNat))
  | .or => some (.int k (k.wrap (BitVec.ofInt k.bits a ||| BitVec.ofInt k.bits b).toNat))
  | .xor => some (.int k (k.wrap (BitVec.ofInt k.bits a ^^^ BitVec.ofInt k.bits b).toNat))
  | .andNot => some (.int k (k.wrap (BitVec.ofInt k.bits a &&& ~~~ BitVec.ofInt k.bits b).toNat))
  | .eql => some (.bool (beqInt a b))
  | .neq => some (.bool (!(beqInt a b)))
  | .lss => some (.bool (!(leInt b a)))
  | .leq => some (.bool (leInt a b))
  | .gtr => some (.bool (!(leInt a b)))
  | .geq => some (.bool (leInt b a))
  | _ => none
def shiftOp (op : BinOp) (k : IntKind) (a b : Int) : Option AVal :=
  match op with
  | .shl => bif leInt 0 b then some (.int k (k.wrap (a * 2 ^ (min b.toNat k.bits)))) else none
  | .shr => bif leInt 0 b then some (.int k (a.fdiv (2 ^ (min b.toNat k.bits)))) else none
  | _ => none
def isShift : BinOp → Bool
  | .shl => true
  | .shr => true
  | _ => false
def strOp (op : BinOp) (a b : List Nat) : Option AVal :=
  match op with
  | .eql => some (.bool (beqStr a b))
  | .neq => some (.bool (!(beqStr a b)))
  | .add => bif Nat.ble (a.length + b.length) 1048576 then some (.str (a ++ b)) else none
  | _ => none

section
variable (A : AProg) (L : List (PTree AObj))

def partA (t : TypeId) (cs : List AVal) (off : Nat) : Option AVal :=
  match isAggA A t with
  | some true => match sizeA A t with
    | some n => match takeN n (dropN off cs) with | some l => some (.agg l) | none => none
    | none => none
  | some false => nth off cs
  | none => none

/-! ## equality -/
def eqScalar (d : TypeDesc) (x y : AVal) : Option Bool :=
  match d, x, y with
  | .bool, .bool a, .bool b => some (beqBool a b)
  | .int _, .int j a, .int k b => bif beqKind j k then some (beqInt a b) else none
  | .string, .str a, .str b => some (beqStr a b)
  | .pointer _, .nilPtr, .nilPtr => some true
  | .pointer _, .nilPtr, .ptr _ _ => some false
  | .pointer _, .ptr _ _, .nilPtr => some false
  | .slice _, .nilSlice, .nilSlice => some true
  | .slice _, .slice .., .nilSlice => some false
  | .slice _, .sliceO .., .nilSlice => some false
  | .slice _, .nilSlice, .slice .. => some false
  | .slice _, .nilSlice, .sliceO .. => some false
  | .map _ _, .nilMap, .nilMap => some true
  | .map _ _, .map _, .nilMap => some false
  | .map _ _, .nilMap, .map _ => some false
  | .func _ _ _, .nilFunc, .nilFunc => some true
  | .func _ _ _, .func .., .nilFunc => some false
  | .func _ _ _, .nilFunc, .func .. => some false
  | .interface _, .nilIface, .nilIface => some true
  | .interface _, .iface _ _, .nilIface => some false
  | .interface _, .nilIface, .iface _ _ => some false
  | _, _, _ => none

/-- a plain block's cells: neither a string's bytes nor gone -/
def plainBlock (h : Heap) (b : Pos) : Bool := match hget L h b with | some (.cells _ _ false _) => true | _ => false

def eqPtr (h : Heap) (elem : TypeId) (a : Pos) (o : Nat) (b : Pos) (q : Nat) : Option Bool :=
  match sizeA A elem with
  | some (Nat.succ _) => bif a.beq b then some (Nat.beq o q) else bif plainBlock L h a && plainBlock L h b then some false else none
  | _ => none

/-- '==' of two values of a type that is no struct -/
def eqPlain (h : Heap) (t : TypeId) (x y : AVal) : Option Bool :=
  match und A t with
  | some d => match d, x, y with
    | .pointer e, .ptr a o, .ptr b q => eqPtr A L h e a o b q
    | d, x, y => eqScalar d x y
  | none => none

/-- the fields of two structs, one by one; a struct's field that is a struct is gone through by the fuel -/
def eqA (h : Heap) : Nat → TypeId → AVal → AVal → Option Bool
  | 0, _, _, _ => none
  | d + 1, t, x, y =>
    match x, y with
    | .agg xs, .agg ys =>
      match und A t with
      | some (.struct fs) => match A.plain.get (posOf t) with | some _ => eqFs (eqA h d) fs.toList xs ys | none => none
      | some (.array n e) => match sizeA A e with | some s => eqEs (eqA h d) e s n 0 xs ys | none => none
      | _ => none
    | x, y => eqPlain A L h t x y
where
  eqEs (rec : TypeId → AVal → AVal → Option Bool) (e : TypeId) (s : Nat) : Nat → Nat → List AVal → List AVal → Option Bool
    | 0, _, _, _ => some true
    | n + 1, off, xs, ys =>
      match partA A e xs off, partA A e ys off with
      | some a, some b => match rec e a b with
        | some true => eqEs rec e s n (off + s) xs ys
        | some false => some false
        | none => none
      | _, _ => none
  eqFs (rec : TypeId → AVal → AVal → Option Bool) : List Field → List AVal → List AVal → Option Bool
    | [], _, _ => some true
    | f :: fs, xs, ys =>
      match partA A f.type xs f.offset, partA A f.type ys f.offset with
      | some a, some b => match rec f.type a b with
        | some true => eqFs rec fs xs ys
        | some false => bif f.name == "_" then none else some false
        | none => none
      | _, _ => none

/-- may values of a type hold two nil interface values with methods? none: not told -/
def guardFree : Nat → TypeId → Bool
  | 0, _ => false
  | d + 1, t => match und A t with
    | some (.interface ms) => ms.isEmpty
    | some (.struct fs) => gFs (guardFree d) fs.toList
    | some (.array _ e) => guardFree d e
    | some _ => true
    | none => false
where
  gFs (rec : TypeId → Bool) : List Field → Bool
    | [] => true
    | f :: fs => bif rec f.type then gFs rec fs else false

def isConst : Operand → Bool
  | .const _ => true
  | _ => false

/-- '==', with what the model asks ahead of it -/
def eqTop (h : Heap) (t : TypeId) (x y : Operand) (a b : AVal) : Option Bool :=
  match a, b with
  | .nilIface, .nilIface => bif isConst x || isConst y then eqPlain A L h t .nilIface .nilIface else none
  | .agg xs, .agg ys => bif guardFree A 40 t then eqA A L h 40 t (.agg xs) (.agg ys) else none
  | a, b => eqPlain A L h t a b

def binA (h : Heap) (op : BinOp) (t : TypeId) (x y : Operand) (a b : AVal) : Option AVal :=
  match a, b with
  | .int k m, .int j n => bif isShift op then shiftOp op k m n else bif beqKind k j then intOp op k m n else none
  | .str m, .str n => strOp op m n
  | a, b => match op with
    | .eql => match eqTop A L h t x y a b with | some r => some (.bool r) | none => none
    | .neq => match eqTop A L h t x y a b with | some r => some (.bool (!r)) | none => none
    | _ => none

def unA (op : UnOp) (x : AVal) : Option AVal :=
  match op, x with
  | .neg, .int k n => some (.int k (wrapA k (0 - n)))
  | .not, .bool b => some (.bool (!b))
  | _, _ => none

def natOf : AVal → Option Nat
  | .int _ n => match n with | .ofNat m => some m | .negSucc _ => none
  | _ => none

def bytesVals : List Nat → List AVal
  | [] => []
  | b :: l => .int .u8 (.ofNat b) :: bytesVals l
def valsBytes : List AVal → Option (List Nat)
  | [] => some []
  | v :: l => match v with
    | .int .u8 (.ofNat n) => bif Nat.blt n 256 then (match valsBytes l with | some r => some (n :: r) | none => none) else none
    | _ => none

def cellsAt (h : Heap) (b : Pos) : Option (List AVal) := match hget L h b with | some (.cells c _ _ _) => some c | _ => none

def loadA (h : Heap) (t : TypeId) (b : Pos) (off : Nat) : Option AVal :=
  match cellsAt L h b with
  | some c => partA A t c off
  | none => none

def storeA (h : Heap) (b : Pos) (off : Nat) (vs : List AVal) : Option Heap :=
  bif allOne vs then
    match hget L h b with
    | some (.cells c o s false) => match splice off vs c with | some c' => some (h.set b (.cells c' o s false)) | none => none
    | _ => none
  else none

def convA (h : Heap) (src dst : TypeId) (x : AVal) : Option AVal :=
  match und A src, und A dst, x with
  | some _, some (.int k), .int _ n => some (.int k (wrapA k n))
  | some _, some .string, .str s => some (.str s)
  | some (.slice e), some .string, .nilSlice => match und A e with | some (.int .u8) => some (.str []) | _ => none
  | some (.slice e), some .string, .slice b off len _ => match und A e with | some (.int .u8) => bytesText h b off len | _ => none
  | some (.slice e), some .string, .sliceO b off len _ => match und A e with | some (.int .u8) => bytesText h b off len | _ => none
  | _, _, _ => none
where
  bytesText (h : Heap) (b : Pos) (off len : Nat) : Option AVal :=
    match cellsAt L h b with
    | some c => match takeN len (dropN off c) with
      | some l => (match valsBytes l with | some s => some (.str s) | none => none)
      | none => none
    | none => none

def fillA (place : Nat → Option (Nat × Nat)) (cells : List AVal) : List (Nat × AVal) → Option (List AVal)
  | [] => some cells
  | (i, v) :: rest =>
    match place i with
    | none => none
    | some (off, size) => bif Nat.beq v.cells.length size then (match splice off v.cells cells with | some c => fillA place c rest | none => none) else none

def evalParts (e : Env) : List (Nat × Operand) → Option (List (Nat × AVal))
  | [] => some []
  | (i, x) :: l => match aeval e x, evalParts e l with
    | some v, some r => some ((i, v) :: r)
    | _, _ => none
def evalAll (e : Env) : List Operand → Option (List AVal)
  | [] => some []
  | x :: l => match aeval e x, evalAll e l with
    | some v, some r => some (v :: r)
    | _, _ => none

def placesA : List Field → Option (List (Nat × Nat))
  | [] => some []
  | f :: fs => match sizeA A f.type, placesA fs with
    | some s, some r => some ((f.offset, s) :: r)
    | _, _ => none

def buildA (t : TypeId) (parts : List (Nat × AVal)) : Option AVal :=
  match zeroA A t, und A t with
  | some z, some (.struct fs) => match placesA A fs.toList with
    | some ps => match fillA (fun i => nth i ps) z.cells parts with | some c => some (.agg c) | none => none
    | none => none
  | some z, some (.array _ e) => match sizeA A e with
    | some s => match fillA (fun i => some (i * s, s)) z.cells parts with | some c => some (.agg c) | none => none
    | none => none
  | _, _ => none

/-- the bound of a slice expression, at most a top -/
def boundA (x : Option AVal) (dflt top : Nat) : Option Nat :=
  match x with
  | none => some dflt
  | some v => match natOf v with
    | some n => bif Nat.ble n top then some n else none
    | none => none

/-- low, high, top of a slice expression -/
def boundsA (len cap : Nat) (lo hi mx : Option AVal) : Option (Nat × Nat × Nat) :=
  match boundA mx cap cap with
  | some m => match (match hi, mx with | none, some _ => none | _, _ => boundA hi len m) with
    | some h => match boundA lo 0 h with | some l => some (l, h, m) | none => none
    | none => none
  | none => none

def sliceA (t : TypeId) (x : AVal) (lo hi mx : Option AVal) : Option AVal :=
  match und A t, x with
  | some .string, .str s => match mx with
    | some _ => none
    | none => match boundsA s.length s.length lo hi none with
      | some (l, h, _) => match takeN (h - l) (dropN l s) with | some r => some (.str r) | none => none
      | none => none
  | some (.slice e), .nilSlice => match sizeA A e, boundsA 0 0 lo hi mx with | some _, some _ => some .nilSlice | _, _ => none
  | some (.slice e), .slice b off len cap => match sizeA A e, boundsA len cap lo hi mx with
    | some s, some (l, h, m) => some (.slice b (bif Nat.beq m l then off else off + l * s) (h - l) (m - l))
    | _, _ => none
  | some (.slice e), .sliceO b off len es => match sizeA A e, boundsA len len lo hi mx with
    | some s, some (l, h, m) => bif Nat.beq s es then
        (match mx with
        | none => some (.sliceO b (off + l * s) (h - l) es)
        | some _ => bif Nat.beq len 0 then none else some (.slice b (bif Nat.beq m l then off else off + l * s) (h - l) (m - l)))
      else none
    | _, _ => none
  | some (.array n e), .ptr b off => arr n e b off
  | some (.pointer a), .ptr b off => match und A a with | some (.array n e) => arr n e b off | _ => none
  | _, _ => none
where
  arr (n : Nat) (e : TypeId) (b : Pos) (off : Nat) : Option AVal :=
    match sizeA A e, boundsA n n lo hi mx with
    | some s, some (l, h, m) => some (.slice b (bif Nat.beq m l then off else off + l * s) (h - l) (m - l))
    | _, _ => none

def indexAtA (t : TypeId) (x ix : AVal) : Option AVal :=
  match natOf ix, und A t, x with
  | some i, some (.array n e), .ptr b off => match sizeA A e with
    | some s => bif Nat.blt i n then some (.ptr b (off + i * s)) else none
    | none => none
  | some i, some (.slice e), .slice b off len _ => match sizeA A e with
    | some s => bif Nat.blt i len then some (.ptr b (off + i * s)) else none
    | none => none
  | some i, some (.slice e), .sliceO b off len _ => match sizeA A e with
    | some s => bif Nat.blt i len then some (.ptr b (off + i * s)) else none
    | none => none
  | _, _, _ => none

def indexA (t : TypeId) (x ix : AVal) : Option AVal :=
  match natOf ix, und A t, x with
  | some i, some (.array n e), .agg cs => match sizeA A e with
    | some s => bif Nat.blt i n then partA A e cs (i * s) else none
    | none => none
  | some i, some .string, .str s => match nth i s with | some b => some (.int .u8 (.ofNat b)) | none => none
  | _, _, _ => none

def fieldA (t : TypeId) (x : AVal) (f : Nat) : Option AVal :=
  match fieldsA A t, x with
  | some fs, .agg cs => match nth f fs with
    | some f => partA A f.type cs f.offset
    | none => none
  | _, _ => none

def fieldAtA (t : TypeId) (x : AVal) (f : Nat) : Option AVal :=
  match fieldsA A t, x with
  | some fs, .ptr b off => match nth f fs with
    | some f => match sizeA A f.type with
      | some (Nat.succ _) => some (.ptr b (off + f.offset))
      | _ => none
    | none => none
  | _, _ => none

/-! ## maps -/
mutual
/-- the same, sign by sign: numbers, texts, bools, and structs of these -/
def same : AVal → AVal → Bool
  | .bool a, y => match y with | .bool b => beqBool a b | _ => false
  | .int j a, y => match y with | .int k b => bif beqKind j k then beqInt a b else false | _ => false
  | .str a, y => match y with | .str b => beqStr a b | _ => false
  | .agg a, y => match y with | .agg b => sames a b | _ => false
  | _, _ => false
def sames : List AVal → List AVal → Bool
  | [], l => match l with | [] => true | _ :: _ => false
  | a :: x, l => match l with | b :: y => bif same a b then sames x y else false | [] => false
end

def keyType (t : TypeId) : Option (TypeId × TypeId) := match und A t with | some (.map k e) => some (k, e) | _ => none

/-- is a value one that may be a key, as it stands (no interface in it)? -/
def keyFine : Nat → TypeId → AVal → Bool
  | 0, _, _ => false
  | d + 1, t, v => match und A t with
    | some (.interface _) => false
    | some (.array _ _) => false
    | some (.struct fs) => match v with | .agg cs => kFs (keyFine d) fs.toList cs | _ => false
    | some _ => true
    | none => false
where
  kFs (rec : TypeId → AVal → Bool) : List Field → List AVal → Bool
    | [], _ => true
    | f :: fs, cs => match partA A f.type cs f.offset with
      | some v => bif rec f.type v then kFs rec fs cs else false
      | none => false

/-- which entry has a key? -/
def findA (h : Heap) (t : TypeId) (k : AVal) : List AEntry → Nat → Option (Option (Nat × AEntry))
  | [], _ => some none
  | e :: es, i => match eqA A L h 40 t k e.k with
    | some true => bif same e.k k then some (some (i, e)) else none
    | some false => findA h t k es (Nat.succ i)
    | none => none

def mapAt (h : Heap) (b : Pos) : Option (List AEntry × Nat) := match hget L h b with | some (.map es c) => some (es, c) | _ => none

def lookupA (h : Heap) (t : TypeId) (m k : AVal) (ok : Bool) : Option AVal :=
  match keyType A t with
  | none => none
  | some (kt, et) =>
    bif keyFine A 40 kt k then
      match m with
      | .nilMap => missing et
      | .map b => match mapAt L h b with
        | some (es, _) => match findA A L h kt k es 0 with
          | some (some (_, e)) => some (bif ok then .tuple [e.v, .bool true] else e.v)
          | some none => missing et
          | none => none
        | none => none
      | _ => none
    else none
where
  missing (et : TypeId) : Option AVal := match zeroA A et with | some v => some (bif ok then .tuple [v, .bool false] else v) | none => none

/-- a key whose parts are single cells -/
def keyFlat : AVal → Bool
  | .agg cs => allOne cs
  | _ => true

def updateA (h : Heap) (t : TypeId) (m k v : AVal) : Option Heap :=
  match keyType A t, m with
  | some (kt, _), .map b =>
    bif keyFine A 40 kt k then
      match mapAt L h b with
      | some (es, c) => match findA A L h kt k es 0 with
        | some (some (i, e)) => bif keyFlat e.k then some (h.set b (.map (setNth i ⟨k, v, e.born⟩ es) c)) else none
        | some none => some (h.set b (.map (es ++ [⟨k, v, c⟩]) (Nat.succ c)))
        | none => none
      | none => none
    else none
  | _, _ => none

def deleteA (h : Heap) (t : TypeId) (m k : AVal) : Option Heap :=
  match keyType A t, m with
  | some (kt, _), .map b =>
    bif keyFine A 40 kt k then
      match mapAt L h b with
      | some (es, c) => match findA A L h kt k es 0 with
        | some (some (i, _)) => some (h.set b (.map (delNth i es) c))
        | some none => some h
        | none => none
      | none => none
    else none
  | _, _ => none

def memNat (k : Nat) : List Nat → Bool
  | [] => false
  | x :: l => bif Nat.beq k x then true else memNat k l

def unseen (seen : List Nat) : List AEntry → List AEntry
  | [] => []
  | e :: es => bif memNat e.born seen then unseen seen es else e :: unseen seen es
end
end Go.Abs

namespace Go.Abs

/-! ## operations that only read: what they come to -/
def optA (e : Env) (x : Option Operand) : Option (Option AVal) :=
  match x with
  | none => some none
  | some x => match aeval e x with | some v => some (some v) | none => none

section
variable (A : AProg) (L : List (PTree AObj))

def qPick (e : Env) (c a b : Operand) : Option AVal := match aeval e c with
  | some (.bool t) => aeval e (bif t then a else b)
  | _ => none
def qLoad (e : Env) (h : Heap) (t : TypeId) (a : Operand) : Option AVal := match aeval e a with
  | some (.ptr b off) => loadA A L h t b off
  | _ => none
def qNilCheck (e : Env) (x : Operand) : Option AVal := match aeval e x with
  | some (.ptr b o) => some (.ptr b o)
  | _ => none
def qBin (e : Env) (h : Heap) (op : BinOp) (t : TypeId) (x y : Operand) : Option AVal := match aeval e x, aeval e y with
  | some v, some w => binA A L h op t x y v w
  | _, _ => none
def qUn (e : Env) (op : UnOp) (x : Operand) : Option AVal := match aeval e x with | some v => unA op v | none => none
def qConv (e : Env) (h : Heap) (s d : TypeId) (x : Operand) : Option AVal := match aeval e x with | some v => convA A L h s d v | none => none
def qIface (e : Env) (t : TypeId) (x : Operand) : Option AVal := match aeval e x, und A t with
  | some _, some (.interface _) => none
  | some v, some _ => some (.iface t v)
  | _, _ => none
def qFunc (e : Env) (fn : Fn) (first captured : Array Operand) : Option AVal := match fn with
  | .func f => match evalAll e first.toList, evalAll e captured.toList with
    | some a, some b => some (.func f a b)
    | _, _ => none
  | _ => none
def qBuild (e : Env) (t : TypeId) (ps : Array (Nat × Operand)) : Option AVal := match evalParts e ps.toList with
  | some l => buildA A t l
  | none => none
def qSlice (e : Env) (t : TypeId) (x : Operand) (lo hi mx : Option Operand) : Option AVal := match aeval e x with
  | some v => match optA e lo, optA e hi, optA e mx with
    | some l, some u, some m => sliceA A t v l u m
    | _, _, _ => none
  | none => none
def qFieldAddr (e : Env) (t : TypeId) (x : Operand) (f : Nat) : Option AVal := match aeval e x with | some v => fieldAtA A t v f | none => none
def qField (e : Env) (t : TypeId) (x : Operand) (f : Nat) : Option AVal := match aeval e x with | some v => fieldA A t v f | none => none
def qIndexAddr (e : Env) (t : TypeId) (x i : Operand) : Option AVal := match aeval e x, aeval e i with | some v, some w => indexAtA A t v w | _, _ => none
def qIndex (e : Env) (t : TypeId) (x i : Operand) : Option AVal := match aeval e x, aeval e i with | some v, some w => indexA A t v w | _, _ => none
def qLookup (e : Env) (h : Heap) (t : TypeId) (m k : Operand) (ok : Bool) : Option AVal := match aeval e m, aeval e k with
  | some v, some w => lookupA A L h t v w ok
  | _, _ => none
def qExtract (e : Env) (x : Operand) (i : Nat) : Option AVal := match aeval e x with | some (.tuple vs) => nth i vs | _ => none
def qAssert (e : Env) (x : Operand) (t : TypeId) (ok : Bool) : Option AVal := match aeval e x, und A t with
  | some _, some (.interface _) => none
  | some (.iface s v), some _ => bif Nat.beq s t then some (bif ok then .tuple [v, .bool true] else v) else qFails t
  | some .nilIface, some _ => qFails t
  | _, _ => none
where
  qFails (t : TypeId) : Option AVal := bif ok then (match zeroA A t with | some z => some (.tuple [z, .bool false]) | none => none) else none
def qEntry (e : Env) (h : Heap) (it : Operand) : Option AVal := match aeval e it with
  | some (.ptr r 0) => match hget L h r with
    | some (.mapIter (some m) since (k :: _)) => match mapAt L h m with
      | some (es, c) => bif Nat.beq c since then pick k es else none
      | none => none
    | _ => none
  | _ => none
where
  pick (k : Nat) : List AEntry → Option AVal
    | [] => none
    | e :: es => bif Nat.beq e.born k then some (.tuple [e.k, e.v]) else pick k es
def qLen (h : Heap) (x : AVal) : Option AVal := match x with
  | .str s => some (.int .i64 (.ofNat s.length))
  | .nilSlice => some (.int .i64 (.ofNat 0))
  | .slice _ _ n _ => some (.int .i64 (.ofNat n))
  | .sliceO _ _ n _ => some (.int .i64 (.ofNat n))
  | .nilMap => some (.int .i64 (.ofNat 0))
  | .map b => match mapAt L h b with | some (es, _) => some (.int .i64 (.ofNat es.length)) | none => none
  | _ => none
/-- does a value fit what 'len' and 'cap' are asked of? -/
def lenType (t : TypeId) (x : AVal) : Bool := match und A t, x with
  | some .string, .str _ => true
  | some (.slice _), .nilSlice => true
  | some (.slice _), .slice .. => true
  | some (.slice _), .sliceO .. => true
  | some (.map _ _), .nilMap => true
  | some (.map _ _), .map _ => true
  | _, _ => false
def qBuiltin (e : Env) (h : Heap) (b : Builtin) (ts : List TypeId) (args : List Operand) : Option AVal :=
  match b, ts, args with
  | .len, t :: _, [x] => match aeval e x with
    | some v => bif lenType A t v then qLen L h v else none
    | none => none
  | .cap, t :: _, [x] => match und A t, aeval e x with
    | some (.slice _), some .nilSlice => some (.int .i64 (.ofNat 0))
    | some (.slice _), some (.slice _ _ _ c) => some (.int .i64 (.ofNat c))
    | _, _ => none
  | .max, _, [x, y] => match aeval e x, aeval e y with
    | some (.int k a), some (.int _ b) => some (.int k (bif leInt b a then a else b))
    | _, _ => none
  | .min, _, [x, y] => match aeval e x, aeval e y with
    | some (.int k a), some (.int _ b) => some (.int k (bif leInt a b then a else b))
    | _, _ => none
  | _, _, _ => none
def qCall (e : Env) (h : Heap) (c : Call) : Option AVal := match c.callee with
  | .builtin b => qBuiltin A L e h b c.argTypes.toList c.args.toList
  | _ => none

/-- an operation that only reads -/
def quiet (e : Env) (h : Heap) (op : Op) : Option AVal :=
  match op with
  | .move x => aeval e x
  | .assign x => aeval e x
  | .pick c a b => qPick e c a b
  | .build t ps => qBuild A e t ps
  | .load t a => qLoad A L e h t a
  | .nilCheck x => qNilCheck e x
  | .binOp op t x y _ => qBin A L e h op t x y
  | .unOp op _ x => qUn e op x
  | .convert s d x => qConv A L e h s d x
  | .makeInterface t x => qIface A e t x
  | .makeFunc fn first captured => qFunc e fn first captured
  | .slice t x lo hi mx => qSlice A e t x lo hi mx
  | .fieldAddr t x f => qFieldAddr A e t x f
  | .field t x f => qField A e t x f
  | .indexAddr t x i => qIndexAddr A e t x i
  | .index t x i => qIndex A e t x i
  | .lookup t m k ok => qLookup A L e h t m k ok
  | .entry it => qEntry L e h it
  | .typeAssert x _ t ok => qAssert A e x t ok
  | .extract x i => qExtract e x i
  | .call c => qCall A L e h c
  | _ => none

/-! ## operations that make a new block, and do nothing else -/
/-- how a value names its block -/
inductive Mk where
  | ptr
  | map
  | slice (len cap : Nat)
  | sliceO (len es : Nat)
def Mk.val (m : Mk) (b : Pos) : AVal :=
  match m with
  | .ptr => .ptr b 0
  | .map => .map b
  | .slice n c => .slice b 0 n c
  | .sliceO n es => .sliceO b 0 n es

def fAlloc (t : TypeId) : Option (AObj × Mk) := match zeroA A t with | some z => some (.cells z.cells 0 false false, .ptr) | none => none
def fBox (e : Env) (x : Operand) : Option (AObj × Mk) := match aeval e x with | some v => some (.cells v.cells 0 false false, .ptr) | none => none
def fBuildSlice (e : Env) (t : TypeId) (n : Nat) (ps : Array (Nat × Operand)) : Option (AObj × Mk) :=
  match evalParts e ps.toList, und A t with
  | some l, some (.slice el) => match sizeA A el, zeroA A el with
    | some s, some z => bif Nat.ble (n * s) 16777216 && Nat.beq z.cells.length s then
        (match fillA (fun i => some (i * s, s)) (repl n z.cells) l with | some c => some (.cells c 0 false false, .slice n n) | none => none)
      else none
    | _, _ => none
  | _, _ => none
def fMakeSlice (e : Env) (t : TypeId) (l c : Operand) : Option (AObj × Mk) :=
  match aeval e l, aeval e c, und A t with
  | some v, some w, some (.slice el) => match natOf v, natOf w with
    | some n, some m => match sizeA A el, bytesA A el, zeroA A el with
      | some s, some bs, some z => bif Nat.ble n m && Nat.ble m 1048576 && Nat.ble bs 1048576 && Nat.beq z.cells.length s then some (.cells (repl m z.cells) 0 false false, .slice n m) else none
      | _, _, _ => none
    | _, _ => none
  | _, _, _ => none
def fMakeMap (e : Env) (t : TypeId) (r : Option Operand) : Option (AObj × Mk) :=
  match r with
  | none => some (.map [] 0, .map)
  | some x => match aeval e x, und A t with
    | some (.int _ _), some (.map _ _) => some (.map [] 0, .map)
    | _, _ => none
def fConv (e : Env) (s d : TypeId) (x : Operand) : Option (AObj × Mk) :=
  match aeval e x, und A s, und A d with
  | some (.str l), some .string, some (.slice el) => match und A el with
    | some (.int .u8) => some (.cells (bytesVals l) 1 true false, .sliceO l.length 1)
    | _ => none
  | _, _, _ => none
def fresh (e : Env) (op : Op) : Option (AObj × Mk) :=
  match op with
  | .alloc t => fAlloc A t
  | .box _ x => fBox e x
  | .buildSlice t n ps => fBuildSlice A e t n ps
  | .makeSlice t l c => fMakeSlice A e t l c
  | .makeMap t r => fMakeMap A e t r
  | .convert s d x => fConv A e s d x
  | _ => none

/-! ## operations that write -/
/-- what an operation comes to -/
inductive ARes where
  | fail
  | val (v : AVal) (h : Heap)
  | enter (f : FuncId) (args : List AVal)
  | round (l : Pos) (args : List AVal)
  | defer (d : ADef)
  | recover
  | panic (v : AVal)
  | next (r m : Pos) (since : Nat) (seen : List Nat) (left : List AEntry)

def wStore (e : Env) (h : Heap) (t : TypeId) (a x : Operand) : ARes := match aeval e a with
  | some (.ptr b off) => (match aeval e x, sizeA A t with
    | some w, some s => bif Nat.beq w.cells.length s then (match storeA L h b off w.cells with | some h' => .val undefA h' | none => .fail) else .fail
    | _, _ => .fail)
  | _ => .fail
def wUpdate (e : Env) (h : Heap) (t : TypeId) (m k x : Operand) : ARes := match aeval e m, aeval e k, aeval e x with
  | some u, some v, some w => (match updateA A L h t u v w with | some h' => .val undefA h' | none => .fail)
  | _, _, _ => .fail
def wRange (e : Env) (h : Heap) (t : TypeId) (x : Operand) : ARes := match und A t, aeval e x with
  | some .string, some (.str s) => .val (.ptr h.next 0) (h.new (.strIter s 0))
  | some (.map _ _), some .nilMap => .val (.ptr h.next 0) (h.new (.mapIter none 0 []))
  | some (.map _ _), some (.map b) => match mapAt L h b with
    | some (_, c) => .val (.ptr h.next 0) (h.new (.mapIter (some b) c []))
    | none => .fail
  | _, _ => .fail
def wNext (e : Env) (h : Heap) (it : Operand) (isString : Bool) : ARes := match aeval e it with
  | some (.ptr r 0) => match hget L h r, isString with
    | some (.strIter s pos), true => match dropN pos s with
      | [] => .val (.tuple [.bool false]) h
      | c :: _ => bif Nat.blt c 128 then .val (.tuple [.bool true, .int .i64 (.ofNat pos), .int .i32 (.ofNat c)]) (h.set r (.strIter s (Nat.succ pos))) else .fail
    | some (.mapIter none _ _), false => .val (.tuple [.bool false]) h
    | some (.mapIter (some m) since seen), false => match mapAt L h m with
      | some (es, c) => bif Nat.beq c since then
          (match unseen seen es with
          | [] => .val (.tuple [.bool false]) h
          | x :: l => .next r m since seen (x :: l))
        else .fail
      | none => .fail
    | _, _ => .fail
  | _ => .fail

/-- the cells of what is appended, or copied: at most n members -/
def srcCells (h : Heap) (es : Nat) (x : AVal) : Option (List AVal × Nat) := match x with
  | .nilSlice => some ([], 0)
  | .str l => some (bytesVals l, l.length)
  | .slice b off len _ => match cellsAt L h b with | some c => (match takeN (len * es) (dropN off c) with | some l => some (l, len) | none => none) | none => none
  | .sliceO b off len _ => match cellsAt L h b with | some c => (match takeN (len * es) (dropN off c) with | some l => some (l, len) | none => none) | none => none
  | _ => none

def small (n : Nat) : Bool := Nat.ble n 1048576

/-- append of cells (n members, n > 0; es cells each) -/
def appendTo (h : Heap) (es : Nat) (s : AVal) (cs : List AVal) (n : Nat) : ARes :=
  match s with
  | .nilSlice => .val (.sliceO h.next 0 n es) (h.new (.cells cs es false false))
  | .slice b off len cap =>
    bif Nat.ble (len + n) cap then
      match storeA L h b (off + len * es) cs with | some h' => .val (.slice b off (len + n) cap) h' | none => .fail
    else
      match cellsAt L h b with
      | some c => (match takeN (len * es) (dropN off c) with
        | some old => .val (.sliceO h.next 0 (len + n) es) (h.new (.cells (old ++ cs) es false false))
        | none => .fail)
      | none => .fail
  | .sliceO b off len es' =>
    bif Nat.beq es es' then
      match hget L h b with
      | some (.cells c (Nat.succ _) _ false) =>
        bif Nat.ble (off + (len + n) * es) c.length then
          match storeA L h b (off + len * es) cs with | some h' => .val (.sliceO b off (len + n) es) h' | none => .fail
        else
          match takeN (len * es) (dropN off c) with
          | some old => .val (.sliceO h.next 0 (len + n) es) ((h.set b .gone).new (.cells (old ++ cs) es true false))
          | none => .fail
      | _ => .fail
    else .fail
  | _ => .fail

/-- append of nothing -/
def appendNone (h : Heap) (s : AVal) : ARes :=
  match s with
  | .nilSlice => .val .nilSlice h
  | .slice b off len cap => bif Nat.ble len cap then .val (.slice b off len cap) h else .fail
  | .sliceO b off len es => .val (.sliceO b off len es) h
  | _ => .fail

def wAppend (h : Heap) (ts : List TypeId) (s x : AVal) : ARes :=
  match ts with
  | t :: t' :: _ => match und A t with
    | some (.slice e) => match sizeA A e, bytesA A e, zeroA A e, und A t' with
      | some es, some bs, some z, some d' =>
        bif small bs && small es && Nat.beq z.cells.length es then
          match d', x with
          | .int _, .int .i64 (.ofNat n) => bif small n && small (lenOf s + n) && allOne z.cells then
              (match n with | 0 => appendNone h s | Nat.succ _ => (match es with | 0 => .fail | Nat.succ _ => appendTo L h es s (repl n z.cells) n)) else .fail
          | .int _, _ => .fail
          | _, x => match srcCells L h es x with
            | some (cs, n) => bif small (lenOf s + n) && allOne cs && textFits es x then
                (match n with | 0 => appendNone h s | Nat.succ _ => (match es with | 0 => .fail | Nat.succ _ => appendTo L h es s cs n)) else .fail
            | none => .fail
        else .fail
      | _, _, _, _ => .fail
    | _ => .fail
  | _ => .fail
where
  lenOf : AVal → Nat
    | .slice _ _ n _ => n
    | .sliceO _ _ n _ => n
    | _ => 0
  textFits (es : Nat) : AVal → Bool
    | .str _ => Nat.beq es 1
    | _ => true

def wCopy (h : Heap) (ts : List TypeId) (d s : AVal) : ARes :=
  match ts with
  | t :: _ => match und A t with
    | some (.slice e) => match sizeA A e with
      | some es => match d with
        | .slice b off m _ => to h es b off m s
        | .sliceO b off m _ => to h es b off m s
        | _ => .fail
      | none => .fail
    | _ => .fail
  | _ => .fail
where
  to (h : Heap) (es : Nat) (b : Pos) (off m : Nat) (s : AVal) : ARes :=
    match s with
    | .slice b' off' n _ => cp h es b off m b' off' n
    | .sliceO b' off' n _ => cp h es b off m b' off' n
    | .nilSlice => .val (.int .i64 (.ofNat 0)) h
    | _ => .fail
  cp (h : Heap) (es : Nat) (b : Pos) (off m : Nat) (b' : Pos) (off' n : Nat) : ARes :=
    match cellsAt L h b' with
    | some c => match takeN (Nat.min n m * es) (dropN off' c) with
      | some cs => match storeA L h b off cs with | some h' => .val (.int .i64 (.ofNat (Nat.min n m))) h' | none => .fail
      | none => .fail
    | none => .fail

def wClear (h : Heap) (ts : List TypeId) (x : AVal) : ARes :=
  match ts with
  | t :: _ => match und A t with
    | some (.slice e) => match zeroA A e with
      | some z => match x with
        | .slice b off n _ => (match storeA L h b off (repl n z.cells) with | some h' => .val undefA h' | none => .fail)
        | .sliceO b off n _ => (match storeA L h b off (repl n z.cells) with | some h' => .val undefA h' | none => .fail)
        | .nilSlice => .val undefA h
        | _ => .fail
      | none => .fail
    | _ => .fail
  | _ => .fail

def wBuiltin (e : Env) (h : Heap) (b : Builtin) (ts : List TypeId) (args : List Operand) : ARes :=
  match b with
  | .append => match evalAll e args with | some [s, x] => wAppend A L h ts s x | _ => .fail
  | .copy => match evalAll e args with | some [d, s] => wCopy A L h ts d s | _ => .fail
  | .clear => match evalAll e args with | some [x] => wClear A L h ts x | _ => .fail
  | .delete => match evalAll e args, ts with | some [m, k], t :: _ => (match deleteA A L h t m k with | some h' => .val undefA h' | none => .fail) | _, _ => .fail
  | .recover => .recover
  | _ => .fail

def callA (f : AVal) (args : List AVal) : ARes := match f with
  | .func g first captured => .enter g (first ++ args ++ captured)
  | .yield l => .round l args
  | _ => .fail

/-- maps.clone -/
def cloneA (h : Heap) (args : List AVal) : ARes := match args with
  | [.iface t (.map b)] => match mapAt L h b with
    | some (es, c) => .val (.iface t (.map h.next)) (h.new (.map es c))
    | none => .fail
  | _ => .fail
/-- the function that is called outright, if it is the library's maps.clone -/
def isClone (f : Operand) : Bool := match f with | .func g => (match A.clones.get (posOf g) with | some _ => true | none => false) | _ => false

def wCall (e : Env) (h : Heap) (c : Call) : ARes :=
  match c.callee with
  | .builtin b => wBuiltin A L e h b c.argTypes.toList c.args.toList
  | .value f => match aeval e f, evalAll e c.args.toList with
    | some v, some l => bif isClone A f then cloneA L h l else callA v l
    | _, _ => .fail
  | .invoke _ _ => .fail
def wDefer (e : Env) (c : Call) : ARes :=
  match c.callee with
  | .value f => match aeval e f, evalAll e c.args.toList with
    | some (.func g first captured), some l => .defer (.call g captured (first ++ l))
    | _, _ => .fail
  | _ => .fail
def wPanic (e : Env) (x : Operand) : ARes := match aeval e x with | some (.iface t v) => .panic (.iface t v) | _ => .fail

def writes (e : Env) (h : Heap) (op : Op) : ARes :=
  match op with
  | .store t a x => wStore A L e h t a x
  | .mapUpdate t m k x => wUpdate A L e h t m k x
  | .insert t m k x => wUpdate A L e h t m k x
  | .range t x => wRange A L e h t x
  | .next it s => wNext L e h it s
  | .call c => wCall A L e h c
  | .defer c => wDefer e c
  | .panic x => wPanic e x
  | _ => .fail

/-- which of the three? 0: it only reads; 1: it makes a block; 2: else -/
def kindOf (op : Op) : Nat :=
  match op with
  | .store .. => 2
  | .mapUpdate .. => 2
  | .insert .. => 2
  | .range .. => 2
  | .next .. => 2
  | .defer .. => 2
  | .panic .. => 2
  | .call c => match c.callee with
    | .builtin .len => 0
    | .builtin .cap => 0
    | .builtin .max => 0
    | .builtin .min => 0
    | _ => 2
  | .alloc _ => 1
  | .box .. => 1
  | .buildSlice .. => 1
  | .makeSlice .. => 1
  | .makeMap .. => 1
  | .convert _ d _ => match und A d with | some (.slice _) => 1 | _ => 0
  | _ => 0

/-- any operation -/
def aop (e : Env) (h : Heap) (op : Op) : ARes :=
  match kindOf A op with
  | 0 => match quiet A L e h op with | some v => .val v h | none => .fail
  | 1 => match fresh A e op with | some (o, m) => .val (m.val h.next) (h.new o) | none => .fail
  | _ => writes A L e h op
end

/-! ## regions -/
def ayielded (w : Array Oper) (e : Env) (j : Nat) : Option (Option Bool) :=
  match nth j w.toList with
  | some o => match o.dst with
    | some d => match e.get d with
      | some (.bool b) => some (some b)
      | some (.tuple []) => some none
      | _ => none
    | none => none
  | none => none

/-- is an operation wanted? none: not told -/
def awanted (g : Option (Nat × Bool)) (w : Array Oper) (e : Env) : Option Bool :=
  match g with
  | none => some true
  | some (j, want) => match ayielded w e j with
    | some (some b) => some (beqBool b want)
    | some none => some false
    | none => none

def setDst (nt : Nat) (d : Option Tmp) (v : AVal) (e : Env) : Option Env :=
  match d with
  | none => some e
  | some d => bif Nat.blt d nt then (match e with | ⟨rc, tm⟩ => some ⟨(d, v) :: rc, tm⟩) else none

/-- what a row of operations comes to -/
inductive ROps where
  | fail
  | done (e : Env) (h : Heap)
  | stop (e : Env) (h : Heap) (rest : List Oper) (r : ARes)

def aops (A : AProg) (L : List (PTree AObj)) (nt : Nat) (w : Array Oper) : List Oper → Env → Heap → ROps
  | [], e, h => .done e h
  | o :: rest, e, h =>
    match awanted o.guard w e with
    | none => .fail
    | some false => match setDst nt o.dst undefA e with
      | some e' => aops A L nt w rest e' h
      | none => .fail
    | some true => match aop A L e h o.op with
      | .val v h' => (match setDst nt o.dst v e with
        | some e' => aops A L nt w rest e' h'
        | none => .fail)
      | .fail => .fail
      | r => .stop e h (o :: rest) r

/-! ## frames -/
def setAll (msk : Nat) : List AVal → Nat → PTree AVal → PTree AVal
  | [], _, t => t
  | v :: l, i, t => setAll msk l (Nat.succ i) (stay msk i v t)

def maskOf (A : AProg) (f : FuncId) : Nat := match A.masks.get (posOf f) with | some m => m | none => 0

/-- the frame of a call -/
def enterA (A : AProg) (f : FuncId) (args : List AVal) (dk : Bool) : Option AFrame :=
  match A.funcs.get (posOf f) with
  | some fn => match fn.body with
    | some c => bif Nat.ble args.length fn.ntmps then
        some ⟨⟨f, maskOf A f, fn.ntmps, dk, none⟩, ⟨[], setAll (maskOf A f) args 0 .leaf⟩, [.code c], [], .run⟩
      else none
    | none => none
  | none => none

def finishA (fr : AFrame) (v : AVal) : Option AFrame :=
  match fr with
  | ⟨fi, e, todo, ds, m⟩ => match todo with
    | .inRegion w (o :: rest) :: k => (match setDst fi.nt o.dst v e with | some e' => some ⟨fi, e', .inRegion w rest :: k, ds, m⟩ | none => none)
    | .inRangeFunc l :: k => some ⟨fi, e, .endRangeFunc l :: k, ds, m⟩
    | _ => none

def raiseA (fr : AFrame) (vs : List (AVal × Bool)) : AFrame :=
  match fr with
  | ⟨fi, e, todo, ds, m⟩ => match m with
    | .panicking c => ⟨fi, e, todo, ds, .panicking (vs ++ c)⟩
    | _ => ⟨fi, e, todo, ds, .panicking vs⟩

def aexitTo (id : Nat) : List AItem → Option (List AItem)
  | [] => none
  | x :: k => match x with
    | .inBlock i => bif Nat.beq i id then some k else aexitTo id k
    | _ => aexitTo id k
def agotoIn (l : Nat) : List AItem → Option (List AItem)
  | [] => none
  | x :: k => match x with
    | .inScope body => match findLabel body l with
      | some rest => some (.code rest :: .inScope body :: k)
      | none => agotoIn l k
    | _ => agotoIn l k

def putParams (nt : Nat) : List Tmp → List AVal → Env → Option Env
  | [], l, e => match l with | [] => some e | _ :: _ => none
  | p :: ps, l, e => match l with
    | a :: l => (match setDst nt (some p) a e with | some e' => putParams nt ps l e' | none => none)
    | [] => none

def aresults (A : AProg) (L : List (PTree AObj)) (h : Heap) (e : Env) : List ResultVar → Option (List AVal)
  | [] => some []
  | .tmp t :: l => match e.get t, aresults A L h e l with | some v, some r => some (v :: r) | _, _ => none
  | .cell a t :: l => match e.get a with
    | some (.ptr b off) => (match loadA A L h t b off, aresults A L h e l with | some v, some r => some (v :: r) | _, _ => none)
    | _ => none
def joined : List AVal → AVal
  | [v] => v
  | vs => .tuple vs
def aresult (A : AProg) (L : List (PTree AObj)) (h : Heap) (f : FuncId) (e : Env) : Option AVal :=
  match A.funcs.get (posOf f) with
  | some fn => (match aresults A L h e fn.results.toList with | some vs => some (joined vs) | none => none)
  | none => none

/-! ## one step, or some at once -/
inductive AStep where
  | fail
  | next (s : AState)
  | call (f : FuncId) (args : List AVal) (s : AState)     -- to be run apart
  | draw (id : Nat) (ops : Array Oper) (k : List AItem) (s : AState)
  | ways (l : List AState)

def jumps (o : Option AState) : AStep := match o with | some s => .next s | none => .fail

/-- what a frame does behind an operation that wants the machine -/
def aresume (A : AProg) (L : List (PTree AObj)) (s : AState) (r : ARes) : AStep :=
  match s with
  | ⟨fr, cs, h⟩ =>
    match r with
    | .enter f args => match A.apart.get (posOf f) with
      | some _ => .call f args s
      | none => match enterA A f args false with
        | some g => .next ⟨g, fr :: cs, h⟩
        | none => .fail
    | .round l args => match hget L h l with
      | some (.loop lp) => match putParams lp.nt lp.params args lp.env with
        | some e => .next ⟨⟨⟨lp.fn, lp.msk, lp.nt, false, some l⟩, ⟨[], flush lp.msk e.rc e.tm⟩, [.code lp.assign, .beginRound, .code lp.body], [], .run⟩, fr :: cs, h⟩
        | none => .fail
      | _ => .fail
    | .defer d => match fr.fi.rnd with
      | none => (match finishA { fr with defers := d :: fr.defers } undefA with | some fr' => .next ⟨fr', cs, h⟩ | none => .fail)
      | some _ => .fail
    | .recover => match fr.fi.rnd with
      | some _ => .fail
      | none => match fr.fi.dk, cs with
        | false, cs => (match finishA fr .nilIface with | some fr' => .next ⟨fr', cs, h⟩ | none => .fail)
        | true, c :: cs => (match c.mode with
          | .panicking ((v, false) :: older) => (match finishA fr v with | some fr' => .next ⟨fr', { c with mode := .panicking ((v, true) :: older) } :: cs, h⟩ | none => .fail)
          | _ => (match finishA fr .nilIface with | some fr' => .next ⟨fr', c :: cs, h⟩ | none => .fail))
        | true, [] => .fail
    | .panic v => .next ⟨raiseA fr [(v, false)], cs, h⟩
    | .next r m since seen left => .ways (branches fr cs h r m since seen left)
    | _ => .fail
where
  branches (fr : AFrame) (cs : List AFrame) (h : Heap) (r m : Pos) (since : Nat) (seen : List Nat) : List AEntry → List AState
    | [] => []
    | e :: l => match finishA fr (.tuple [.bool true, e.k, e.v]) with
      | some fr' => ⟨fr', cs, h.set r (.mapIter (some m) since (e.born :: seen))⟩ :: branches fr cs h r m since seen l
      | none => []

def aleave (A : AProg) (L : List (PTree AObj)) (s : AState) (jump : Option Code) : AStep :=
  match s with
  | ⟨⟨fi, e, todo, ds, m⟩, cs, h⟩ =>
    match fi.rnd with
    | none => match jump with
      | none => .next ⟨⟨fi, e, todo, ds, .returning⟩, cs, h⟩
      | some .ret => .next ⟨⟨fi, e, todo, ds, .returning⟩, cs, h⟩
      | _ => .fail
    | some l => match hget L h l, cs with
      | some (.loop lp), c :: cs =>
        (match finishA c (.bool jump.isNone) with
        | some c' => .next ⟨c', cs, h.set l (.loop { lp with state := (match jump with | none => .ready | some _ => .done), pending := jump })⟩
        | none => .fail)
      | _, _ => .fail

/-- a piece of code at the front -/
def acode (A : AProg) (L : List (PTree AObj)) (s : AState) (fi : FInfo) (e : Env) (ds : List ADef) (cs : List AFrame) (h : Heap) (k : List AItem) (c : Code) : AStep :=
  match c with
  | .skip => .next ⟨⟨fi, e, k, ds, .run⟩, cs, h⟩
  | .label _ => .next ⟨⟨fi, e, k, ds, .run⟩, cs, h⟩
  | .seq a b => .next ⟨⟨fi, e, .code a :: .code b :: k, ds, .run⟩, cs, h⟩
  | .cond x a b => match aeval e x with
    | some (.bool t) => .next ⟨⟨fi, e, .code (bif t then a else b) :: k, ds, .run⟩, cs, h⟩
    | _ => .fail
  | .block id b => .next ⟨⟨fi, e, .code b :: .inBlock id :: k, ds, .run⟩, cs, h⟩
  | .loop b => .next ⟨⟨fi, e, .code b :: .inLoop b :: k, ds, .run⟩, cs, h⟩
  | .scope b => .next ⟨⟨fi, e, .code b :: .inScope b :: k, ds, .run⟩, cs, h⟩
  | .exit id => match aexitTo id k with
    | some k' => .next ⟨⟨fi, e, k', ds, .run⟩, cs, h⟩
    | none => aleave A L s (some (.exit id))
  | .goto l => match agotoIn l k with
    | some k' => .next ⟨⟨fi, e, k', ds, .run⟩, cs, h⟩
    | none => aleave A L s (some (.goto l))
  | .ret => aleave A L s (some .ret)
  | .region id ops draw => match draw with
    | true => .draw id ops k s
    | false => .next ⟨⟨fi, ⟨[], flush fi.msk e.rc e.tm⟩, .inRegion ops ops.toList :: k, ds, .run⟩, cs, h⟩
  | .rangeFunc f params assign body => match fi.rnd, aeval e f with
    | none, some (.func g first captured) =>
      let h1 := h.new (.deferred (some []))
      let h2 := h1.new (.loop ⟨.ready, none, fi.fn, fi.msk, fi.nt, e, params.toList, assign, body, h.next⟩)
      match enterA A g (first ++ [.yield h1.next] ++ captured) false with
      | some fr => .next ⟨fr, ⟨fi, e, .inRangeFunc h1.next :: k, .mark h.next :: ds, .run⟩ :: cs, h2⟩
      | none => .fail
    | _, _ => .fail
  | .refuse _ => .fail

def arun (A : AProg) (L : List (PTree AObj)) (s : AState) (fi : FInfo) (e : Env) (ds : List ADef) (cs : List AFrame) (h : Heap) (todo : List AItem) : AStep :=
  match todo with
  | [] => aleave A L s none
  | x :: k => match x with
    | .inBlock _ => .next ⟨⟨fi, e, k, ds, .run⟩, cs, h⟩
    | .inScope _ => .next ⟨⟨fi, e, k, ds, .run⟩, cs, h⟩
    | .inLoop b => .next ⟨⟨fi, e, .code b :: .inLoop b :: k, ds, .run⟩, cs, h⟩
    | .inRegion w ops => match aops A L fi.nt w ops e h with
      | .done e' h' => .next ⟨⟨fi, e', k, ds, .run⟩, cs, h'⟩
      | .stop e' h' rest r => aresume A L ⟨⟨fi, e', .inRegion w rest :: k, ds, .run⟩, cs, h'⟩ r
      | .fail => .fail
    | .inRangeFunc _ => .fail
    | .endRangeFunc l => match hget L h l with
      | some (.loop lp) => (match lp.state with
        | .busy => .fail
        | _ => .next ⟨⟨fi, e, (match lp.pending with | some c => .code c :: k | none => k), ds, .run⟩, cs, h.set l (.loop { lp with state := .exhausted })⟩)
      | _ => .fail
    | .beginRound => match fi.rnd with
      | some l => match hget L h l with
        | some (.loop lp) => (match lp.state with
          | .ready => .next ⟨⟨fi, e, k, ds, .run⟩, cs, h.set l (.loop { lp with state := .busy })⟩
          | _ => .fail)
        | _ => .fail
      | none => .fail
    | .code c => acode A L s fi e ds cs h k c
    | .lost => .fail

/-- a frame that is left -/
def aunwind (A : AProg) (L : List (PTree AObj)) (fi : FInfo) (e : Env) (todo : List AItem) (ds : List ADef) (m : AMode) (cs : List AFrame) (h : Heap) : AStep :=
  match ds with
  | .mark b :: ds => match hget L h b with
    | some (.deferred (some calls)) => .next ⟨⟨fi, e, todo, calls ++ ds, m⟩, cs, h.set b (.deferred none)⟩
    | _ => .fail
  | .call f captured args :: ds => match enterA A f (args ++ captured) true with
    | some g => .next ⟨g, ⟨fi, e, todo, ds, m⟩ :: cs, h⟩
    | none => .fail
  | [] => match m, cs with
    | .panicking chain, c :: cs => .next ⟨raiseA c chain, cs, h⟩
    | .returning, c :: cs => match aresult A L h fi.fn e with
      | some v => match fi.dk with
        | false => (match finishA c v with | some c' => .next ⟨c', cs, h⟩ | none => .fail)
        | true => match c with
          | ⟨fi', e', todo', ds', m'⟩ => match m' with
            | .panicking ((_, true) :: _) => .next ⟨⟨fi', e', todo', ds', .returning⟩, cs, h⟩
            | _ => .next ⟨c, cs, h⟩
      | none => .fail
    | _, _ => .fail

def astep (A : AProg) (L : List (PTree AObj)) (s : AState) : AStep :=
  match s with
  | ⟨⟨fi, e, todo, ds, m⟩, cs, h⟩ => match m with
    | .run => arun A L s fi e ds cs h todo
    | m => aunwind A L fi e todo ds m cs h

/-! ## runs -/
inductive AEnd where
  | ret (v : AVal)
  | pan (chain : List (AVal × Bool))

/-- is the call over that was begun without callers? -/
def over? (A : AProg) (L : List (PTree AObj)) (s : AState) : Option (Option (AEnd × Heap)) :=
  match s with
  | ⟨⟨fi, e, _, ds, m⟩, cs, h⟩ => match m, cs, ds with
    | .returning, [], [] => some (match fi.dk, fi.rnd, aresult A L h fi.fn e with | false, none, some v => some (.ret v, h) | _, _, _ => none)
    | .panicking c, [], [] => some (match fi.dk, fi.rnd with | false, none => some (.pan c, h) | _, _ => none)
    | _, _, _ => none
end Go.Abs

namespace Go.Abs

/-! ## the same, sign by sign: any values -/
def beqName (a b : String) : Bool := a == b
mutual
def beqV : AVal → AVal → Bool
  | .bool a, y => match y with | .bool b => beqBool a b | _ => false
  | .int j a, y => match y with | .int k b => bif beqKind j k then beqInt a b else false | _ => false
  | .str a, y => match y with | .str b => beqStr a b | _ => false
  | .ptr a o, y => match y with | .ptr b q => bif a.beq b then Nat.beq o q else false | _ => false
  | .nilPtr, y => match y with | .nilPtr => true | _ => false
  | .slice a o n c, y => match y with | .slice b p m d => bif a.beq b then (bif Nat.beq o p then (bif Nat.beq n m then Nat.beq c d else false) else false) else false | _ => false
  | .sliceO a o n c, y => match y with | .sliceO b p m d => bif a.beq b then (bif Nat.beq o p then (bif Nat.beq n m then Nat.beq c d else false) else false) else false | _ => false
  | .nilSlice, y => match y with | .nilSlice => true | _ => false
  | .map a, y => match y with | .map b => a.beq b | _ => false
  | .nilMap, y => match y with | .nilMap => true | _ => false
  | .func f a b, y => match y with | .func g c d => bif Nat.beq f g then (bif beqVs a c then beqVs b d else false) else false | _ => false
  | .yield a, y => match y with | .yield b => a.beq b | _ => false
  | .nilFunc, y => match y with | .nilFunc => true | _ => false
  | .iface s a, y => match y with | .iface t b => bif Nat.beq s t then beqV a b else false | _ => false
  | .nilIface, y => match y with | .nilIface => true | _ => false
  | .agg a, y => match y with | .agg b => beqVs a b | _ => false
  | .tuple a, y => match y with | .tuple b => beqVs a b | _ => false
def beqVs : List AVal → List AVal → Bool
  | [], l => match l with | [] => true | _ :: _ => false
  | a :: x, l => match l with | b :: y => bif beqV a b then beqVs x y else false | [] => false
end

def beqEs : List AEntry → List AEntry → Bool
  | [], l => match l with | [] => true | _ :: _ => false
  | a :: x, l => match l with | b :: y => bif beqV a.k b.k then (bif beqV a.v b.v then (bif Nat.beq a.born b.born then beqEs x y else false) else false) else false | [] => false
def beqO : AObj → AObj → Bool
  | .cells a o s r, y => match y with | .cells b p t q => bif beqVs a b then (bif Nat.beq o p then (bif beqBool s t then beqBool r q else false) else false) else false | _ => false
  | .map a c, y => match y with | .map b d => bif Nat.beq c d then beqEs a b else false | _ => false
  | _, _ => false
def beqChain : List (AVal × Bool) → List (AVal × Bool) → Bool
  | [], l => match l with | [] => true | _ :: _ => false
  | a :: x, l => match l with | b :: y => bif beqV a.1 b.1 then (bif beqBool a.2 b.2 then beqChain x y else false) else false | [] => false
def beqEnd : AEnd → AEnd → Bool
  | .ret a, y => match y with | .ret b => beqV a b | _ => false
  | .pan a, y => match y with | .pan b => beqChain a b | _ => false

/-! ## where ways meet again -/
def meetO : Option AObj → Option AObj → Option AObj
  | none, none => none
  | some a, some b => some (bif beqO a b then a else .gone)
  | _, _ => some .gone
def killed : PTree AObj → PTree AObj
  | .leaf => .leaf
  | .node l v r => .node (killed l) (match v with | none => none | some _ => some .gone) (killed r)
def meet : PTree AObj → PTree AObj → PTree AObj
  | .leaf, t => killed t
  | .node l v r, t => match t with
    | .leaf => .node (killed l) (match v with | none => none | some _ => some .gone) (killed r)
    | .node l' v' r' => .node (meet l l') (meetO v v') (meet r r')
def maxPos (a b : Pos) : Pos := bif Nat.ble a.toNat b.toNat then b else a
def meetOut (x y : AEnd × Heap) : Option (AEnd × Heap) :=
  bif beqEnd x.1 y.1 then some (x.1, ⟨meet x.2.top y.2.top, maxPos x.2.next y.2.next⟩) else none
def runAll (rn : AState → Option (AEnd × Heap)) : List AState → Option (AEnd × Heap)
  | [] => none
  | s :: l => match l with
    | [] => rn s
    | _ :: _ => match rn s, runAll rn l with
      | some x, some y => meetOut x y
      | _, _ => none

/-! ## a region that draws its order: what does not hang on operations is told once -/
structure PItem where
  o : Oper
  kind : Nat    -- 0: it only reads; 1: it makes a block; 2: else: these stand one behind the other
  lo : Nat      -- how many of those of kind 2 stand ahead of it, at least
  hi : Nat      -- and at most

/-- who stands ahead of whom, by the edges that always bind, as bits -/
def edgeBits (acc : List Nat) : List Edge → Option Nat
  | [] => some 0
  | e :: l => match e.ground with
    | .textOnly _ => edgeBits acc l
    | .gcOnly _ => edgeBits acc l
    | _ => match nth e.on acc, edgeBits acc l with
      | some b, some r => some (Nat.lor (Nat.lor (Nat.pow 2 e.on) b) r)
      | _, _ => none
def allBits : List Oper → List Nat → Option (List Nat)
  | [], acc => some acc
  | o :: l, acc => match edgeBits acc o.after.toList with
    | some b => allBits l (acc ++ [b])
    | none => none
def tmpOf : List Operand → List Nat
  | [] => []
  | x :: l => match x with | .tmp t => t :: tmpOf l | _ => tmpOf l
def inNats (t : Nat) : List Nat → Bool
  | [] => false
  | x :: l => bif Nat.beq t x then true else inNats t l
/-- the temporaries that an operation reads, but for its guard's -/
def readsOf (o : Oper) : List Nat := tmpOf o.op.operands.toList
def dstIn (d : Option Tmp) (l : List Nat) : Bool := match d with | some t => inNats t l | none => false
def dstNe (d : Option Tmp) (d' : Option Tmp) : Bool := match d, d' with | some t, some u => !(Nat.beq t u) | _, _ => true
/-- operation i (of kind ki) ahead of j in the text: are they in order, where they must be? -/
def pairFine (i : Nat) (oi : Oper) (ki : Nat) (bj : Nat) (oj : Oper) (kj : Nat) : Bool :=
  bif dstNe oi.dst oj.dst then
    (bif Nat.testBit bj i then true else
      !(dstIn oi.dst (readsOf oj)) && !(dstIn oj.dst (readsOf oi)) && !(Nat.beq ki 2 && Nat.beq kj 2))
  else false
def guardFine (bj : Nat) (g : Option (Nat × Bool)) : Bool := match g with | none => true | some (i, _) => Nat.testBit bj i
def aheadFine (bj : Nat) (oj : Oper) (kj : Nat) : List (Nat × Oper × Nat) → Bool
  | [] => true
  | x :: l => bif pairFine x.1 x.2.1 x.2.2 bj oj kj then aheadFine bj oj kj l else false
def countIn (b : Nat) : List (Nat × Nat) → Nat          -- how many of some places (place, bits) are in b?
  | [] => 0
  | x :: l => bif Nat.testBit b x.1 then Nat.succ (countIn b l) else countIn b l
def countNot (i : Nat) : List (Nat × Nat) → Nat         -- of how many is i not ahead?
  | [] => 0
  | x :: l => bif Nat.testBit x.2 i then countNot i l else Nat.succ (countNot i l)
def kinds (A : AProg) : List Oper → List Nat
  | [] => []
  | o :: l => kindOf A o.op :: kinds A l
def numbered : Nat → List Oper → List Nat → List Nat → List (Nat × Oper × Nat × Nat)
  | i, o :: l, k :: ks, b :: bs => (i, o, k, b) :: numbered (Nat.succ i) l ks bs
  | _, _, _, _ => []
def anchorsOf : List (Nat × Oper × Nat × Nat) → List (Nat × Nat)
  | [] => []
  | x :: l => bif Nat.beq x.2.2.1 2 then (x.1, x.2.2.2) :: anchorsOf l else anchorsOf l
def allFine : List (Nat × Oper × Nat) → List (Nat × Oper × Nat × Nat) → Bool
  | _, [] => true
  | acc, x :: l => bif aheadFine x.2.2.2 x.2.1 x.2.2.1 acc && guardFine x.2.2.2 x.2.1.guard then allFine ((x.1, x.2.1, x.2.2.1) :: acc) l else false
def itemsOf (an : List (Nat × Nat)) : List (Nat × Oper × Nat × Nat) → List PItem
  | [] => []
  | x :: l => ⟨x.2.1, x.2.2.1, countIn x.2.2.2 an, countNot x.1 an⟩ :: itemsOf an l
def plan (A : AProg) (ops : Array Oper) : Option (List PItem) :=
  match allBits ops.toList [] with
  | some bs => let l := numbered 0 ops.toList (kinds A ops.toList) bs
    bif allFine [] l then some (itemsOf (anchorsOf l) l) else none
  | none => none

/-- what is to be looked at again: an operation, what it read, what it came to -/
structure Again where
  lo : Nat
  hi : Nat
  e : Env
  op : Op
  v : AVal

structure Pend where
  id : Pos
  o : AObj
  hi : Nat

inductive DOut where
  | done (e : Env) (h : Heap)
  | pan (chain : List (AVal × Bool)) (h : Heap)

structure DSt where
  k : Nat
  e : Env
  h : Heap
  hs : List Heap
  again : List Again
  pend : List Pend
  id : Pos

def adopt (k : Nat) : List Pend → Heap → Heap
  | [], h => h
  | p :: l, h => bif Nat.beq p.hi k then (adopt k l h).set p.id p.o else adopt k l h
def adoptAll : List Pend → Heap → Heap
  | [], h => h
  | p :: l, h => (adoptAll l h).set p.id p.o
def unadopted (k : Nat) : List Pend → List Pend
  | [] => []
  | p :: l => bif Nat.beq p.hi k then unadopted k l else p :: unadopted k l

/-- is what was read the same at one more stage? -/
def againAt (A : AProg) (L : List (PTree AObj)) (a : Again) (h : Heap) : Bool := match quiet A L a.e h a.op with | some v => beqV a.v v | none => false
def againAll (A : AProg) (L : List (PTree AObj)) (a : Again) : Nat → List Heap → Bool     -- the heaps behind stages k, k-1, ..
  | _, [] => true
  | k, h :: hs => bif (bif Nat.ble a.lo k then (bif Nat.ble k a.hi then againAt A L a h else true) else true) then againAll A L a (Nat.pred k) hs else false
def agains (A : AProg) (L : List (PTree AObj)) (k : Nat) (hs : List Heap) : List Again → Bool
  | [] => true
  | a :: l => bif againAll A L a k hs then agains A L k hs l else false
def allBehind (k : Nat) : List PItem → Bool
  | [] => true
  | x :: l => bif Nat.ble k x.lo then allBehind k l else false

def dgo (rn : AState → Option (AEnd × Heap)) (A : AProg) (L : List (PTree AObj)) (nt : Nat) (w : Array Oper) : List PItem → DSt → Option DOut
  | [], ⟨k, e, h, hs, ag, pd, _⟩ => bif agains A L k hs ag then some (.done e (adoptAll pd h)) else none
  | ⟨o, kind, lo, hi⟩ :: l, ⟨k, e, h, hs, ag, pd, id⟩ =>
    match awanted o.guard w e with
    | none => none
    | some false => match setDst nt o.dst undefA e with
      | some e' => match kind with
        | 0 => dgo rn A L nt w l ⟨k, e', h, hs, ag, pd, id⟩
        | 1 => dgo rn A L nt w l ⟨k, e', h, hs, ag, pd, id⟩
        | _ => let h1 := adopt k pd h
          dgo rn A L nt w l ⟨Nat.succ k, e', h1, h1 :: hs, ag, unadopted k pd, id⟩
      | none => none
    | some true => match kind with
      | 0 => match quiet A L e h o.op with
        | some v => (match setDst nt o.dst v e with
          | some e' => dgo rn A L nt w l ⟨k, e', h, hs, (bif Nat.beq lo hi then ag else ⟨lo, hi, e, o.op, v⟩ :: ag), pd, id⟩
          | none => none)
        | none => none
      | 1 => match fresh A e o.op with
        | some (ob, m) => (match setDst nt o.dst (m.val id) e with
          | some e' => dgo rn A L nt w l ⟨k, e', h, hs, ag, ⟨id, ob, hi⟩ :: pd, id.inc⟩
          | none => none)
        | none => none
      | _ => let h1 := adopt k pd h
        match writes A L e h1 o.op with
        | .val v h2 => (match setDst nt o.dst v e with
          | some e' => dgo rn A L nt w l ⟨Nat.succ k, e', h2, h2 :: hs, ag, unadopted k pd, id⟩
          | none => none)
        | .enter f args => (match enterA A f args false with
          | some g => match rn ⟨g, [], h1⟩ with
            | some (.ret v, h2) => (match setDst nt o.dst v e with
              | some e' => dgo rn A L nt w l ⟨Nat.succ k, e', h2, h2 :: hs, ag, unadopted k pd, id⟩
              | none => none)
            | some (.pan c, h2) => bif allBehind (Nat.succ k) l && agains A L k hs ag then some (.pan c h2) else none
            | none => none
          | none => none)
        | .panic v => bif allBehind (Nat.succ k) l && agains A L k hs ag then some (.pan [(v, false)] h1) else none
        | _ => none

def countFresh : List PItem → Nat
  | [] => 0
  | x :: l => bif Nat.beq x.kind 1 then Nat.succ (countFresh l) else countFresh l
def incs : Nat → Pos → Pos
  | 0, p => p
  | n + 1, p => incs n p.inc
def delTmp : Pos → PTree AVal → PTree AVal
  | .H, t => match t with | .leaf => .leaf | .node l _ r => .node l none r
  | .O p, t => match t with | .leaf => .leaf | .node l v r => .node (delTmp p l) v r
  | .I p, t => match t with | .leaf => .leaf | .node l v r => .node l v (delTmp p r)
def delDsts : List Oper → PTree AVal → PTree AVal
  | [], t => t
  | o :: l, t => match o.dst with | some d => delTmp (posOf d) (delDsts l t) | none => delDsts l t

def drawRun (rn : AState → Option (AEnd × Heap)) (A : AProg) (L : List (PTree AObj)) (nt : Nat) (ops : Array Oper) (tm : PTree AVal) (h : Heap) : Option DOut :=
  match plan A ops with
  | some items => match h with
    | ⟨t, n⟩ => dgo rn A L nt ops items ⟨0, ⟨[], tm⟩, ⟨t, incs (countFresh items) n⟩, [⟨t, incs (countFresh items) n⟩], [], [], n⟩
  | none => none

/-! ## runs -/
def run : Nat → AProg → List (PTree AObj) → AState → Option (AEnd × Heap)
  | 0, _, _, _ => none
  | n + 1, A, L, s => match over? A L s with
    | some r => r
    | none => match astep A L s with
      | .fail => none
      | .next s' => run n A L s'
      | .ways l => runAll (run n A L) l
      | .call f args s' => match s', enterA A f args false with
        | ⟨fr, cs, ⟨t, nx⟩⟩, some g => match run n A (t :: L) ⟨g, [], ⟨.leaf, nx⟩⟩ with
          | some (.ret v, ⟨t', nx'⟩) => (match finishA fr v with | some fr' => run n A L ⟨fr', cs, ⟨t'.union t, nx'⟩⟩ | none => none)
          | some (.pan c, ⟨t', nx'⟩) => run n A L ⟨raiseA fr c, cs, ⟨t'.union t, nx'⟩⟩
          | none => none
        | _, none => none
      | .draw _ ops k s' => match s' with
        | ⟨⟨fi, e, todo, ds, m⟩, cs, h⟩ => match drawRun (run n A L) A L fi.nt ops (flush fi.msk e.rc e.tm) h with
          | some (.done e' h') => run n A L ⟨⟨fi, e', k, ds, m⟩, cs, h'⟩
          | some (.pan c h') => run n A L ⟨raiseA ⟨fi, ⟨[], delDsts ops.toList (flush fi.msk e.rc e.tm)⟩, [.lost], ds, m⟩ c, cs, h'⟩
          | none => none

def isTrue (x : Option (AEnd × Heap)) : Bool := match x with | some (.ret (.bool true), _) => true | _ => false
end Go.Abs

namespace Go.Abs

/-! ## numbers of blocks -/
theorem Pos.toNat_pos (p : Pos) : 0 < p.toNat := by induction p <;> simp only [Pos.toNat] <;> omega
theorem Pos.toNat_inj : ∀ (p q : Pos), p.toNat = q.toNat → p = q := by
  intro p
  induction p with
  | H => intro q h; cases q with
    | H => rfl
    | O q => have := q.toNat_pos; simp only [Pos.toNat] at h; omega
    | I q => have := q.toNat_pos; simp only [Pos.toNat] at h; omega
  | O p ih => intro q h; cases q with
    | H => have := p.toNat_pos; simp only [Pos.toNat] at h; omega
    | O q => rw [ih q (by simp only [Pos.toNat] at h; omega)]
    | I q => simp only [Pos.toNat] at h; omega
  | I p ih => intro q h; cases q with
    | H => have := p.toNat_pos; simp only [Pos.toNat] at h; omega
    | O q => simp only [Pos.toNat] at h; omega
    | I q => rw [ih q (by simp only [Pos.toNat] at h; omega)]
theorem Pos.toNat_inc (p : Pos) : p.inc.toNat = p.toNat + 1 := by
  induction p with
  | H => rfl
  | O p _ => simp only [Pos.inc, Pos.toNat]
  | I p ih => simp only [Pos.inc, Pos.toNat, ih]; omega
theorem Pos.beq_iff : ∀ (p q : Pos), p.beq q = true ↔ p = q := by
  intro p
  induction p with
  | H => intro q; cases q <;> simp [Pos.beq]
  | O p ih => intro q; cases q <;> simp [Pos.beq, ih]
  | I p ih => intro q; cases q <;> simp [Pos.beq, ih]

theorem cond_eq {α : Type} (b : Bool) (x y : α) : (bif b then x else y) = if b = true then x else y := by cases b <;> rfl
theorem toNat_posAux : ∀ (n k : Nat), 1 ≤ k → k ≤ n → (posAux n k).toNat = k := by
  intro n
  induction n with
  | zero => intro k h1 h2; omega
  | succ n ih =>
    intro k h1 h2
    have hm : Nat.mod k 2 = k % 2 := rfl
    have hd : Nat.div k 2 = k / 2 := rfl
    simp only [posAux, cond_eq, Nat.ble_eq, hm, hd]
    by_cases hk : k ≤ 1
    · simp only [if_pos hk, Pos.toNat]; omega
    · rw [if_neg hk]
      have := ih (k / 2) (by omega) (by omega)
      by_cases h : k % 2 = 0
      · simp only [h, Nat.beq_refl, if_true, Pos.toNat, this]; omega
      · have : Nat.beq (k % 2) 0 = false := by cases hb : Nat.beq (k % 2) 0 with | false => rfl | true => exact absurd (Nat.eq_of_beq_eq_true hb) h
        rw [this]; simp only [Bool.false_eq_true, if_false, Pos.toNat, *]; omega
theorem toNat_posOf (k : Nat) : (posOf k).toNat = k + 1 := toNat_posAux (Nat.succ k) (Nat.succ k) (by omega) (by omega)
theorem posOf_inj {a b : Nat} (h : posOf a = posOf b) : a = b := by
  have := congrArg Pos.toNat h; rw [toNat_posOf, toNat_posOf] at this; omega

/-! ## trees -/
namespace PTree
variable {α : Type}
@[simp] theorem get_leaf (p : Pos) : (leaf : PTree α).get p = none := by cases p <;> rfl
theorem get_put_same (x : α) : ∀ (p : Pos) (t : PTree α), (t.put p x).get p = some x := by
  intro p
  induction p with
  | H => intro t; cases t <;> rfl
  | O p ih => intro t; cases t <;> simp [put, get, ih]
  | I p ih => intro t; cases t <;> simp [put, get, ih]
theorem get_put_other (x : α) : ∀ (p q : Pos) (t : PTree α), p ≠ q → (t.put p x).get q = t.get q := by
  intro p
  induction p with
  | H => intro q t h; cases q <;> cases t <;> simp_all [put, get]
  | O p ih =>
    intro q t h
    cases q <;> cases t <;> simp only [put, get, get_leaf]
    · rw [ih _ _ (by rintro rfl; exact h rfl)]; simp
    · rw [ih _ _ (by rintro rfl; exact h rfl)]
  | I p ih =>
    intro q t h
    cases q <;> cases t <;> simp only [put, get, get_leaf]
    · rw [ih _ _ (by rintro rfl; exact h rfl)]; simp
    · rw [ih _ _ (by rintro rfl; exact h rfl)]
theorem get_put (x : α) (p q : Pos) (t : PTree α) : (t.put p x).get q = if p = q then some x else t.get q := by
  by_cases h : p = q
  · subst h; rw [if_pos rfl, get_put_same]
  · rw [if_neg h, get_put_other _ _ _ _ h]
theorem get_union : ∀ (p : Pos) (s t : PTree α), (s.union t).get p = orElse (s.get p) (t.get p) := by
  intro p
  induction p with
  | H => intro s t; cases s <;> cases t <;> simp [union, get, orElse]; cases ‹Option α› <;> simp [orElse]
  | O p ih =>
    intro s t
    cases s <;> cases t <;> simp [union, get, orElse, ih]
    rename_i l _ _; cases get p l <;> rfl
  | I p ih =>
    intro s t
    cases s <;> cases t <;> simp [union, get, orElse, ih]
    rename_i r; cases get p r <;> rfl
theorem get_build : ∀ (l : List α) (p : Pos) (t : PTree α) (q : Pos),
    (build l p t).get q = if p.toNat ≤ q.toNat ∧ q.toNat < p.toNat + l.length then l[q.toNat - p.toNat]? else t.get q := by
  intro l
  induction l with
  | nil => intro p t q; simp only [build]; rw [if_neg (by simp)]
  | cons x l ih =>
    intro p t q
    simp only [build, ih, Pos.toNat_inc, List.length_cons]
    by_cases h : p.toNat = q.toNat
    · have hpq := Pos.toNat_inj _ _ h
      subst hpq
      rw [if_neg (by omega), if_pos (by omega), get_put_same]; simp
    · rw [get_put_other _ _ _ _ (by rintro rfl; exact h rfl)]
      by_cases h2 : p.toNat + 1 ≤ q.toNat ∧ q.toNat < p.toNat + 1 + l.length
      · rw [if_pos h2, if_pos (by omega)]
        have : q.toNat - p.toNat = (q.toNat - (p.toNat + 1)) + 1 := by omega
        rw [this]; rfl
      · rw [if_neg h2, if_neg (by omega)]
theorem get_ofList (l : List α) (i : Nat) : (ofList l).get (posOf i) = l[i]? := by
  unfold ofList
  rw [get_build, toNat_posOf]
  simp only [Pos.toNat, get_leaf]
  by_cases h : i < l.length
  · rw [if_pos (by omega)]; rfl
  · rw [if_neg (by omega), List.getElem?_eq_none (by omega)]
end PTree

/-! ## lists -/
section
variable {α : Type}
theorem takeN_some : ∀ (n : Nat) (l r : List α), takeN n l = some r → n ≤ l.length ∧ r = l.take n := by
  intro n
  induction n with
  | zero => intro l r h; simp [takeN] at h; simp [← h]
  | succ n ih =>
    intro l r h
    cases l with
    | nil => simp [takeN] at h
    | cons x l =>
      simp only [takeN] at h
      split at h
      · rename_i r' hr
        obtain ⟨h1, h2⟩ := ih _ _ hr
        simp at h; subst h; subst h2
        exact ⟨by simp; omega, by simp⟩
      · simp at h
theorem dropN_eq : ∀ (n : Nat) (l : List α), dropN n l = l.drop n := by
  intro n
  induction n with
  | zero => intro l; simp [dropN]
  | succ n ih => intro l; cases l <;> simp [dropN, ih]
theorem nth_eq : ∀ (n : Nat) (l : List α), nth n l = l[n]? := by
  intro n
  induction n with
  | zero => intro l; cases l <;> simp [nth]
  | succ n ih => intro l; cases l <;> simp [nth, ih]
theorem over_some : ∀ (xs l r : List α), over xs l = some r → xs.length ≤ l.length ∧ r = xs ++ l.drop xs.length := by
  intro xs
  induction xs with
  | nil => intro l r h; simp [over] at h; simp [h]
  | cons x xs ih =>
    intro l r h
    cases l with
    | nil => simp [over] at h
    | cons y l =>
      simp only [over] at h
      split at h
      · rename_i r' hr
        obtain ⟨h1, h2⟩ := ih _ _ hr
        simp at h; subst h; subst h2
        exact ⟨by simp; omega, by simp⟩
      · simp at h
theorem splice_some : ∀ (n : Nat) (xs l r : List α), splice n xs l = some r → n + xs.length ≤ l.length ∧ r = l.take n ++ xs ++ l.drop (n + xs.length) := by
  intro n
  induction n with
  | zero => intro xs l r h; have := over_some xs l r h; simpa using this
  | succ n ih =>
    intro xs l r h
    cases l with
    | nil => simp [splice] at h
    | cons y l =>
      simp only [splice] at h
      split at h
      · rename_i r' hr
        obtain ⟨h1, h2⟩ := ih _ _ _ hr
        simp at h; subst h; subst h2
        refine ⟨by simp; omega, ?_⟩
        have : n + 1 + xs.length = (n + xs.length) + 1 := by omega
        rw [this]; simp
      · simp at h
theorem setNth_eq : ∀ (n : Nat) (y : α) (l : List α), setNth n y l = l.set n y := by
  intro n
  induction n with
  | zero => intro y l; cases l <;> simp [setNth]
  | succ n ih => intro y l; cases l <;> simp [setNth, ih]
theorem delNth_eq : ∀ (n : Nat) (l : List α), delNth n l = l.eraseIdx n := by
  intro n
  induction n with
  | zero => intro l; cases l <;> simp [delNth]
  | succ n ih => intro l; cases l <;> simp [delNth, ih]
theorem repl_length : ∀ (n : Nat) (l : List α), (repl n l).length = n * l.length := by
  intro n
  induction n with
  | zero => intro l; simp [repl]
  | succ n ih => intro l; simp only [repl, List.length_append, ih, Nat.succ_mul]; omega
theorem repl_get : ∀ (n : Nat) (l : List α) (k : Nat), k < n * l.length → (repl n l)[k]? = l[k % l.length]? := by
  intro n
  induction n with
  | zero => intro l k h; omega
  | succ n ih =>
    intro l k h
    simp only [repl]
    by_cases hk : k < l.length
    · rw [List.getElem?_append_left hk, Nat.mod_eq_of_lt hk]
    · rw [List.getElem?_append_right (by omega), ih _ _ (by rw [Nat.succ_mul] at h; omega)]
      rw [← Nat.mod_eq_sub_mod (by omega)]
end

/-! ## numbers, texts -/
theorem beqInt_iff (a b : Int) : beqInt a b = true ↔ a = b := by
  cases a <;> cases b <;> simp [beqInt] <;> omega
theorem beqInt_eq (a b : Int) : beqInt a b = (a == b) := by
  rw [Bool.eq_iff_iff, beqInt_iff]; simp
theorem leInt_eq (a b : Int) : leInt a b = decide (a ≤ b) := by
  cases a <;> cases b <;> simp only [leInt]
  · rw [Bool.eq_iff_iff]; simp
  · rename_i a b; have : ¬ ((a : Int) ≤ Int.negSucc b) := by omega
    simp [this]
  · rename_i a b; have : (Int.negSucc a ≤ (b : Int)) := by omega
    simp [this]
  · rename_i a b
    rw [Bool.eq_iff_iff]; simp only [Nat.ble_eq, decide_eq_true_eq]; omega
theorem beqKind_iff (j k : IntKind) : beqKind j k = true ↔ j = k := by cases j <;> cases k <;> simp [beqKind]
theorem beqBool_eq (a b : Bool) : beqBool a b = (a == b) := by cases a <;> cases b <;> rfl
theorem beqStr_iff : ∀ (a b : List Nat), beqStr a b = true ↔ a = b := by
  intro a
  induction a with
  | nil => intro b; cases b <;> simp [beqStr]
  | cons x a ih =>
    intro b
    cases b with
    | nil => simp [beqStr]
    | cons y b =>
      simp only [beqStr, cond_eq]
      by_cases h : x = y
      · subst h; simp [ih]
      · have : Nat.beq x y = false := by cases hb : Nat.beq x y with | false => rfl | true => exact absurd (Nat.eq_of_beq_eq_true hb) h
        simp [this, h]
theorem wrapA_eq (k : IntKind) (n : Int) : wrapA k n = k.wrap n := by
  cases k <;> try rfl
  cases n with
  | negSucc m => rfl
  | ofNat m =>
    simp only [wrapA, cond_eq, Nat.ble_eq]
    split
    · rfl
    · rename_i h
      simp only [IntKind.wrap, IntKind.bits, IntKind.signed]
      simp only [Int.ofNat_eq_natCast, Bool.true_and, ge_iff_le, decide_eq_true_eq]
      have : (m : Int) % 2 ^ 64 = m := by omega
      rw [this]
      rw [if_neg (by omega)]
end Go.Abs

namespace Go.Abs

/-! ## what an abstract value stands for -/
/-- where a block lies: the real block, the place of its first cell, how many cells it has from there on -/
structure Place where
  block : Nat
  base : Nat
  room : Nat
abbrev Inj := Pos → Option Place
def Inj.le (f g : Inj) : Prop := ∀ i p, f i = some p → g i = some p
theorem Inj.le_refl (f : Inj) : f.le f := fun _ _ h => h
theorem Inj.le_trans {f g h : Inj} (a : f.le g) (b : g.le h) : f.le h := fun i p x => b i p (a i p x)

mutual
def VRel (f : Inj) : AVal → Value → Prop
  | .bool b, v => v = .bool b
  | .int k n, v => v = .int k n
  | .str l, v => ∃ s, v = .string s ∧ bytesOf s = l
  | .ptr b off, v => ∃ p, f b = some p ∧ v = .pointer (some ⟨p.block, p.base + off, none⟩)
  | .nilPtr, v => v = .pointer none
  | .slice b off len cap, v => ∃ p, f b = some p ∧ v = .slice (some ⟨p.block, p.base + off, none⟩) len cap ∧ len ≤ cap
  | .sliceO b off len es, v => ∃ p, f b = some p ∧ 0 < es ∧
      ((∃ cap, v = .slice (some ⟨p.block, p.base + off, none⟩) len cap ∧ len ≤ cap ∧ off + cap * es = p.room) ∨
       (len = 0 ∧ off = p.room ∧ ∃ a, v = .slice (some a) 0 0))
  | .nilSlice, v => v = .slice none 0 0
  | .map b, v => ∃ p, f b = some p ∧ v = .map (some p.block)
  | .nilMap, v => v = .map none
  | .func g first captured, v => ∃ a b : Array Value, v = .func (.func g) a b ∧ VsRel f first a.toList ∧ VsRel f captured b.toList
  | .yield l, v => ∃ p, f l = some p ∧ v = .func (.yield p.block) #[] #[]
  | .nilFunc, v => v = .nilFunc
  | .iface t x, v => ∃ y, v = .iface t y ∧ VRel f x y
  | .nilIface, v => v = .nilIface
  | .agg cs, v => ∃ a : Array Value, v = .agg a ∧ VsRel f cs a.toList
  | .tuple cs, v => ∃ a : Array Value, v = .tuple a ∧ VsRel f cs a.toList
def VsRel (f : Inj) : List AVal → List Value → Prop
  | [], vs => vs = []
  | a :: l, vs => ∃ v vs', vs = v :: vs' ∧ VRel f a v ∧ VsRel f l vs'
end

mutual
theorem VRel.mono {f g : Inj} (h : f.le g) : ∀ (a : AVal) (v : Value), VRel f a v → VRel g a v
  | .bool _, _, r => r
  | .int _ _, _, r => r
  | .str _, _, r => r
  | .ptr _ _, _, ⟨p, hp, r⟩ => ⟨p, h _ _ hp, r⟩
  | .nilPtr, _, r => r
  | .slice _ _ _ _, _, ⟨p, hp, r⟩ => ⟨p, h _ _ hp, r⟩
  | .sliceO _ _ _ _, _, ⟨p, hp, r⟩ => ⟨p, h _ _ hp, r⟩
  | .nilSlice, _, r => r
  | .map _, _, ⟨p, hp, r⟩ => ⟨p, h _ _ hp, r⟩
  | .nilMap, _, r => r
  | .func _ x y, _, ⟨a, b, e, r, s⟩ => ⟨a, b, e, VsRel.mono h x _ r, VsRel.mono h y _ s⟩
  | .yield _, _, ⟨p, hp, r⟩ => ⟨p, h _ _ hp, r⟩
  | .nilFunc, _, r => r
  | .iface _ x, _, ⟨y, e, r⟩ => ⟨y, e, VRel.mono h x y r⟩
  | .nilIface, _, r => r
  | .agg x, _, ⟨a, e, r⟩ => ⟨a, e, VsRel.mono h x _ r⟩
  | .tuple x, _, ⟨a, e, r⟩ => ⟨a, e, VsRel.mono h x _ r⟩
theorem VsRel.mono {f g : Inj} (h : f.le g) : ∀ (a : List AVal) (v : List Value), VsRel f a v → VsRel g a v
  | [], _, r => r
  | x :: l, _, ⟨v, vs, e, r, s⟩ => ⟨v, vs, e, VRel.mono h x v r, VsRel.mono h l vs s⟩
end

section
variable {f : Inj}
theorem VsRel.length : ∀ {a : List AVal} {v : List Value}, VsRel f a v → a.length = v.length := by
  intro a
  induction a with
  | nil => intro v h; rw [VsRel] at h; subst h; rfl
  | cons x a ih => intro v h; rw [VsRel] at h; obtain ⟨y, v', rfl, _, h⟩ := h; simp [ih h]
theorem VsRel.get : ∀ {a : List AVal} {v : List Value} (_ : VsRel f a v) (i : Nat) (x : AVal), a[i]? = some x → ∃ y, v[i]? = some y ∧ VRel f x y := by
  intro a
  induction a with
  | nil => intro v h i x hx; simp at hx
  | cons z a ih =>
    intro v h i x hx
    rw [VsRel] at h; obtain ⟨y, v', rfl, hy, h⟩ := h
    cases i with
    | zero => simp at hx; subst hx; exact ⟨y, rfl, hy⟩
    | succ i => exact ih h i x (by simpa using hx)
theorem VsRel.mk : ∀ {a : List AVal} {v : List Value}, a.length = v.length → (∀ (i : Nat) (x : AVal) (y : Value), a[i]? = some x → v[i]? = some y → VRel f x y) → VsRel f a v := by
  intro a
  induction a with
  | nil => intro v h _; rw [VsRel]; exact List.eq_nil_of_length_eq_zero h.symm
  | cons z a ih =>
    intro v h hr
    cases v with
    | nil => simp at h
    | cons y v =>
      rw [VsRel]
      exact ⟨y, v, rfl, hr 0 z y rfl rfl, ih (by simpa using h) fun i x y' hx hy => hr (i + 1) x y' (by simpa using hx) (by simpa using hy)⟩
theorem VsRel.append {a b : List AVal} {v w : List Value} (h : VsRel f a v) (k : VsRel f b w) : VsRel f (a ++ b) (v ++ w) := by
  induction a generalizing v with
  | nil => rw [VsRel] at h; subst h; exact k
  | cons x a ih => rw [VsRel] at h; obtain ⟨y, v', rfl, hy, h⟩ := h; exact ⟨y, v' ++ w, rfl, hy, ih h⟩
theorem VsRel.nil : VsRel f [] [] := rfl
theorem VsRel.one {a : AVal} {v : Value} (h : VRel f a v) : VsRel f [a] [v] := ⟨v, [], rfl, h, rfl⟩
theorem VsRel.take {a : List AVal} {v : List Value} (h : VsRel f a v) (n : Nat) : VsRel f (a.take n) (v.take n) := by
  refine .mk (by simp [h.length]) ?_
  intro i x y hx hy
  rw [List.getElem?_take] at hx hy
  split at hx
  · rename_i hi; rw [if_pos hi] at hy
    obtain ⟨y', hy', r⟩ := h.get i x hx
    rw [hy] at hy'; cases hy'; exact r
  · simp at hx
theorem VsRel.drop {a : List AVal} {v : List Value} (h : VsRel f a v) (n : Nat) : VsRel f (a.drop n) (v.drop n) := by
  refine .mk (by simp [h.length]) ?_
  intro i x y hx hy
  rw [List.getElem?_drop] at hx hy
  obtain ⟨y', hy', r⟩ := h.get _ x hx
  rw [hy] at hy'; cases hy'; exact r
/-- the cells of a value -/
theorem VRel.cells {a : AVal} {v : Value} (h : VRel f a v) : VsRel f a.cells v.cells.toList := by
  cases a <;> simp only [AVal.cells] <;> first
    | (rw [VRel] at h; obtain ⟨x, rfl, h⟩ := h; exact h)
    | (have h' := h
       rw [VRel] at h
       first
         | (subst h; exact VsRel.one h')
         | (obtain ⟨p, _, rfl⟩ := h; exact VsRel.one h')
         | (obtain ⟨p, _, rfl, _⟩ := h; exact VsRel.one h')
         | (obtain ⟨s, rfl, _⟩ := h; exact VsRel.one h')
         | (obtain ⟨a, b, rfl, _⟩ := h; exact VsRel.one h')
         | (obtain ⟨p, _, _, ⟨c, rfl, _⟩ | ⟨_, _, c, rfl⟩⟩ := h <;> exact VsRel.one h'))
theorem VRel.one {a : AVal} {v : Value} (h : VRel f a v) (ho : a.one = true) : v.oneCell' = true := by
  cases a <;> simp only [AVal.one, Bool.false_eq_true] at ho <;> rw [VRel] at h <;> first
    | (subst h; rfl)
    | (obtain ⟨p, _, rfl⟩ := h; rfl)
    | (obtain ⟨p, _, rfl, _⟩ := h; rfl)
    | (obtain ⟨s, rfl, _⟩ := h; rfl)
    | (obtain ⟨a, b, rfl, _⟩ := h; rfl)
    | (obtain ⟨p, _, _, ⟨c, rfl, _⟩ | ⟨_, _, c, rfl⟩⟩ := h <;> rfl)
theorem allOne_get : ∀ {l : List AVal}, allOne l = true → ∀ (i : Nat) (x : AVal), l[i]? = some x → x.one = true := by
  intro l
  induction l with
  | nil => intro _ i x hx; simp at hx
  | cons y l ih =>
    intro h i x hx
    simp only [allOne, cond_eq] at h
    split at h
    · rename_i hy
      cases i with
      | zero => simp at hx; subst hx; exact hy
      | succ i => exact ih h i x (by simpa using hx)
    · simp at h
end

mutual
theorem ofValue_rel {f : Inj} : ∀ (v : Value) (a : AVal), ofValue v = some a → VRel f a v
  | .bool b, a, h => by simp [ofValue] at h; subst h; rfl
  | .int k n, a, h => by simp [ofValue] at h; subst h; rfl
  | .string s, a, h => by simp [ofValue] at h; subst h; exact ⟨s, rfl, rfl⟩
  | .pointer none, a, h => by simp [ofValue] at h; subst h; rfl
  | .pointer (some _), a, h => by simp [ofValue] at h
  | .slice none 0 0, a, h => by simp [ofValue] at h; subst h; rfl
  | .slice none (_ + 1) _, a, h => by simp [ofValue] at h
  | .slice none 0 (_ + 1), a, h => by simp [ofValue] at h
  | .slice (some _) _ _, a, h => by simp [ofValue] at h
  | .map none, a, h => by simp [ofValue] at h; subst h; rfl
  | .map (some _), a, h => by simp [ofValue] at h
  | .chan _, a, h => by simp [ofValue] at h
  | .float _ _, a, h => by simp [ofValue] at h
  | .complex _ _ _, a, h => by simp [ofValue] at h
  | .func fn ⟨x⟩ ⟨y⟩, a, h => by
    cases fn <;> simp only [ofValue, reduceCtorEq] at h
    split at h
    · rename_i p q hp hq
      simp at h; subst h
      exact ⟨⟨x⟩, ⟨y⟩, rfl, ofValues_rel x p hp, ofValues_rel y q hq⟩
    · simp at h
  | .nilFunc, a, h => by simp [ofValue] at h; subst h; rfl
  | .iface t v, a, h => by
    simp only [ofValue] at h
    split at h
    · rename_i x hx; simp at h; subst h; exact ⟨v, rfl, ofValue_rel v x hx⟩
    · simp at h
  | .nilIface, a, h => by simp [ofValue] at h; subst h; rfl
  | .agg ⟨x⟩, a, h => by
    simp only [ofValue] at h
    split at h
    · rename_i l hl; simp at h; subst h; exact ⟨⟨x⟩, rfl, ofValues_rel x l hl⟩
    · simp at h
  | .tuple ⟨x⟩, a, h => by
    simp only [ofValue] at h
    split at h
    · rename_i l hl; simp at h; subst h; exact ⟨⟨x⟩, rfl, ofValues_rel x l hl⟩
    · simp at h
theorem ofValues_rel {f : Inj} : ∀ (v : List Value) (a : List AVal), ofValues v = some a → VsRel f a v
  | [], a, h => by simp [ofValues] at h; subst h; rfl
  | v :: vs, a, h => by
    simp only [ofValues] at h
    split at h
    · rename_i x l hx hl; simp at h; subst h; exact ⟨v, vs, rfl, ofValue_rel v x hx, ofValues_rel vs l hl⟩
    · simp at h
end

/-! ## what an abstract block stands for -/
def ADef.Rel (f : Inj) : ADef → Deferred → Prop
  | .call g captured args, d => ∃ c a : Array Value, d = { target := .fn (.func g) c, args := a } ∧ VsRel f captured c.toList ∧ VsRel f args a.toList
  | .mark b, d => ∃ p, f b = some p ∧ d = { target := .collected p.block, args := #[] }
def DsRel (f : Inj) : List ADef → List Deferred → Prop
  | [], ds => ds = []
  | a :: l, ds => ∃ d ds', ds = d :: ds' ∧ a.Rel f d ∧ DsRel f l ds'

/-- a frame's temporaries -/
structure ERel (f : Inj) (msk nt : Nat) (e : Env) (tmps : Array Value) : Prop where
  get : ∀ t v, e.get t = some v → ∃ v', tmps[t]? = some v' ∧ VRel f v v'
  nt : nt ≤ tmps.size
  stay : ∀ t v, e.tm.get (posOf t) = some v → Nat.testBit msk t = true

def CRel (f : Inj) (base : Nat) (c : List AVal) (cs : Array Value) : Prop := ∀ k v, c[k]? = some v → ∃ v', cs[base + k]? = some v' ∧ VRel f v v'
def EsRel (f : Inj) : List AEntry → List MapEntry → Prop
  | [], es => es = []
  | a :: l, es => ∃ e es', es = e :: es' ∧ (VRel f a.k e.key ∧ VRel f a.v e.val ∧ e.born = a.born) ∧ EsRel f l es'

def ORel (f : Inj) (p : Place) : AObj → Obj → Prop
  | .cells c opn str _, ob => ∃ cs e fz, ob = .cells cs e fz ∧ CRel f p.base c cs ∧ (∀ k, k < cs.size → ¬(fz.1 ≤ k ∧ k < fz.2)) ∧
      (opn ≠ 0 → c.length ≤ p.room ∧ p.base + p.room ≤ cs.size) ∧ (str = false → fz.2 ≤ fz.1)
  | .map es clock, ob => ∃ ces, ob = .map ces clock ∧ EsRel f es ces.toList ∧ (∀ e ∈ es, e.born < clock)
  | .strIter s pos, ob => p.base = 0 ∧ ∃ bs, ob = .stringIter bs pos ∧ bytesOf bs = s
  | .mapIter none _ _, ob => p.base = 0 ∧ ∃ a b c, ob = .mapIter none a b c
  | .mapIter (some m) since seen, ob => p.base = 0 ∧ ∃ q sn, f m = some q ∧ ob = .mapIter (some q.block) since sn since ∧ sn.toList.reverse = seen
  | .loop l, ob => ∃ (tmps : Array Value) (q : Place), f l.defers = some q ∧ ERel f l.msk l.nt l.env tmps ∧
      ob = .loop { state := l.state, pending := l.pending, fn := l.fn, tmps := tmps, params := l.params.toArray, assign := l.assign, body := l.body, defers := q.block }
  | .deferred none, ob => ob = .deferred none
  | .deferred (some ds), ob => ∃ ds', ob = .deferred (some ds') ∧ DsRel f ds ds'
  | .gone, _ => True

section
variable {f g : Inj} (h : f.le g)
include h
theorem ADef.Rel.mono {a : ADef} {d : Deferred} (r : a.Rel f d) : a.Rel g d := by
  cases a with
  | call => obtain ⟨c, a, rfl, x, y⟩ := r; exact ⟨c, a, rfl, VsRel.mono h _ _ x, VsRel.mono h _ _ y⟩
  | mark => obtain ⟨p, hp, rfl⟩ := r; exact ⟨p, h _ _ hp, rfl⟩
theorem DsRel.mono : ∀ {a : List ADef} {d : List Deferred}, DsRel f a d → DsRel g a d := by
  intro a
  induction a with
  | nil => intro d r; exact r
  | cons x a ih => intro d r; obtain ⟨y, d', rfl, r, s⟩ := r; exact ⟨y, d', rfl, r.mono h, ih s⟩
theorem ERel.mono {msk nt : Nat} {e : Env} {tmps : Array Value} (r : ERel f msk nt e tmps) : ERel g msk nt e tmps :=
  ⟨fun t v hv => let ⟨v', a, b⟩ := r.get t v hv; ⟨v', a, VRel.mono h _ _ b⟩, r.nt, r.stay⟩
theorem CRel.mono {base : Nat} {c : List AVal} {cs : Array Value} (r : CRel f base c cs) : CRel g base c cs :=
  fun k v hv => let ⟨v', a, b⟩ := r k v hv; ⟨v', a, VRel.mono h _ _ b⟩
theorem EsRel.mono : ∀ {a : List AEntry} {es : List MapEntry}, EsRel f a es → EsRel g a es := by
  intro a
  induction a with
  | nil => intro d r; exact r
  | cons x a ih => intro d r; obtain ⟨y, d', rfl, ⟨r, s, t⟩, u⟩ := r; exact ⟨y, d', rfl, ⟨VRel.mono h _ _ r, VRel.mono h _ _ s, t⟩, ih u⟩
theorem ORel.mono {p : Place} {o : AObj} {ob : Obj} (r : ORel f p o ob) : ORel g p o ob := by
  cases o with
  | cells => obtain ⟨cs, e, fz, rfl, a, b⟩ := r; exact ⟨cs, e, fz, rfl, a.mono h, b⟩
  | map => obtain ⟨ces, rfl, a, b⟩ := r; exact ⟨ces, rfl, a.mono h, b⟩
  | strIter => exact r
  | mapIter m _ _ =>
    cases m with
    | none => exact r
    | some m => obtain ⟨z, q, sn, a, b⟩ := r; exact ⟨z, q, sn, h _ _ a, b⟩
  | loop => obtain ⟨tmps, q, a, b, c⟩ := r; exact ⟨tmps, q, h _ _ a, b.mono h, c⟩
  | deferred d =>
    cases d with
    | none => exact r
    | some d => obtain ⟨ds, a, b⟩ := r; exact ⟨ds, a, b.mono h⟩
  | gone => trivial
end

def AObj.live : AObj → Bool
  | .gone => false
  | _ => true
def AObj.ro : AObj → Bool
  | .cells _ _ _ r => r
  | _ => false

/-- what must not change, and from where -/
structure Keep where
  keep : Nat → Prop
  ro : Nat → Prop           -- kept blocks that may be seen
  res : Pos → Prop          -- numbers that are given away, but not to a block yet
  w0 : World

/-- a heap: by what each block is -/
structure HRel (E : Keep) (f : Inj) (g : Pos → Option AObj) (nx : Pos) (w : World) : Prop where
  objs : ∀ i o, g i = some o → o.live = true → ∃ p ob, f i = some p ∧ w.heap[p.block]? = some ob ∧ ORel f p o ob
  sep : ∀ i j oi oj p q, g i = some oi → g j = some oj → oi.live = true → oj.live = true → i ≠ j → f i = some p → f j = some q → p.block ≠ q.block
  fresh : ∀ i p, f i = some p → i.toNat < nx.toNat
  kept : ∀ i o p, g i = some o → o.live = true → f i = some p → E.keep p.block → o.ro = true ∧ E.ro p.block
  low : ∀ b, E.ro b → b < E.w0.heap.size
  res : ∀ i, E.res i → f i = none ∧ i.toNat < nx.toNat
  keep : ∀ b, E.keep b → b < E.w0.heap.size ∧ w.heap[b]? = E.w0.heap[b]?
  size : E.w0.heap.size ≤ w.heap.size
  os : w.os = E.w0.os
  tape : w.tape = E.w0.tape
  output : w.output = E.w0.output

theorem HRel.wr {E : Keep} {f : Inj} {g : Pos → Option AObj} {nx : Pos} {w : World} (hH : HRel E f g nx w) (i : Pos) (o : AObj) (p : Place) (h1 : g i = some o) (h2 : o.live = true) (h3 : o.ro = false) (h4 : f i = some p) : ¬ E.keep p.block := by
  intro hk
  have := (hH.kept i o p h1 h2 h4 hk).1
  rw [h3] at this; simp at this
end Go.Abs

namespace Go.Abs

/-- the tables that an evaluation goes by are the program's -/
structure AProg.Ok (A : AProg) (P : Program) : Prop where
  types : ∀ t i, A.types.get (posOf t) = some i → P.info? t = some i
  funcs : ∀ g fn, A.funcs.get (posOf g) = some fn → P.funcs[g]? = some fn
  calls : ∀ g fn c, A.funcs.get (posOf g) = some fn → fn.body = some c → ∀ args w, (callFunc g args).run P w = .ok (.enter g args) w
  clones : ∀ g u, A.clones.get (posOf g) = some u → ∀ args w, (callFunc g args).run P w = (do pure (Next.value (← Extern.MapsClone.clone args))).run P w
  plain : ∀ t u, A.plain.get (posOf t) = some u → P.stoodInHeld t = false
  mixed : P.follows .mixedOrders = true
  depth : 40 ≤ P.depth

section
variable {A : AProg} {P : Program} (hA : A.Ok P)
include hA
theorem und_ok {t : TypeId} {d : TypeDesc} (h : und A t = some d) : P.underlying t = some d := by
  unfold und at h
  split at h
  · rename_i i hi
    have hi := hA.types _ _ hi
    unfold Program.underlying
    rw [hi]
    split at h
    · rename_i n u hd
      split at h
      · rename_i j hj
        have hj := hA.types _ _ hj
        cases i; simp at hd h; subst hd; simp [hj, h]
      · simp at h
    · rename_i hne
      have hd : i.desc = d := by simpa using h
      subst hd
      obtain ⟨desc, _, _, _, _, _, _, _, _, _⟩ := i
      cases desc <;> simp_all
  · simp at h
theorem run_und {t : TypeId} {d : TypeDesc} (h : und A t = some d) (w : World) : (underlying t).run P w = .ok d w := by
  simp [underlying, und_ok hA h]
theorem run_size {t : TypeId} {n : Nat} (h : sizeA A t = some n) (w : World) : (sizeOf t).run P w = .ok n w := by
  unfold sizeA at h
  split at h
  · rename_i i hi; simp at h; subst h; simp [sizeOf, typeInfo, hA.types _ _ hi]
  · simp at h
theorem run_bytes {t : TypeId} {n : Nat} (h : bytesA A t = some n) (w : World) : ∃ i, (typeInfo t).run P w = .ok i w ∧ i.bytes = n := by
  unfold bytesA at h
  split at h
  · rename_i i hi; simp at h; exact ⟨i, by simp [typeInfo, hA.types _ _ hi], h⟩
  · simp at h
theorem run_isAgg {t : TypeId} {b : Bool} (h : isAggA A t = some b) (w : World) : (isAgg t).run P w = .ok b w := by
  unfold isAggA at h
  split at h <;> simp at h <;> subst h <;> rename_i hu
  · simp [isAgg, run_und hA hu]
  · simp [isAgg, run_und hA hu]
  · rename_i h1 h2
    rename_i d
    simp [isAgg, run_und hA hu]
    all_goals (split <;> simp_all)
theorem run_zero {f : Inj} {t : TypeId} {a : AVal} (h : zeroA A t = some a) (w : World) : ∃ v, (zeroValue t).run P w = .ok v w ∧ VRel f a v := by
  unfold zeroA at h
  split at h
  · rename_i i hi
    split at h
    · rename_i v hv
      exact ⟨v, by simp [zeroValue, typeInfo, hA.types _ _ hi, hv], ofValue_rel v a h⟩
    · simp at h
  · simp at h
theorem run_fields {t : TypeId} {fs : List Field} (h : fieldsA A t = some fs) : ∃ a : Array Field, und A t = some (.struct a) ∧ a.toList = fs := by
  unfold fieldsA at h
  split at h
  · rename_i a ha; simp at h; exact ⟨a, ha, h⟩
  · simp at h

/-- a part of a struct or an array -/
theorem run_part {f : Inj} {t : TypeId} {cs : List AVal} {off : Nat} {a : AVal} (h : partA A t cs off = some a) {vs : Array Value} (hr : VsRel f cs vs.toList) (w : World) :
    ∃ v, (part t vs off).run P w = .ok v w ∧ VRel f a v := by
  unfold partA at h
  split at h
  · rename_i hag
    split at h
    · rename_i n hn
      split at h
      · rename_i l hl
        simp at h; subst h
        obtain ⟨h1, rfl⟩ := takeN_some _ _ _ hl
        rw [dropN_eq]
        refine ⟨.agg (vs.extract off (off + n)), by simp [part, run_isAgg hA hag, run_size hA hn], ?_⟩
        refine ⟨_, rfl, ?_⟩
        rw [Array.toList_extract, List.extract_eq_take_drop]
        have : off + n - off = n := by omega
        rw [this]
        exact (hr.drop off).take n
      · simp at h
    · simp at h
  · rename_i hag
    rw [nth_eq] at h
    obtain ⟨v, hv, r⟩ := hr.get _ _ h
    have hv' : vs[off]? = some v := by simpa using hv
    exact ⟨v, by simp [part, run_isAgg hA hag, hv'], r⟩
  · simp at h
end

/-! ## cells of a block -/
section
variable {A : AProg} {P : Program} {L : List (PTree AObj)} {E : Keep} {f : Inj} {h : Heap} {nx : Pos} {w : World}

theorem cells_of (hH : HRel E f (hget L h) nx w) {b : Pos} {c : List AVal} (hc : cellsAt L h b = some c) :
    ∃ p cs e fz o s r, hget L h b = some (.cells c o s r) ∧ f b = some p ∧ w.heap[p.block]? = some (.cells cs e fz) ∧ CRel f p.base c cs := by
  unfold cellsAt at hc
  split at hc
  · rename_i c' o s r hg
    simp at hc; subst hc
    obtain ⟨p, ob, hp, hw, hr⟩ := hH.objs _ _ hg rfl
    obtain ⟨cs, e, fz, rfl, h1, _⟩ := hr
    exact ⟨p, cs, e, fz, o, s, r, hg, hp, hw, h1⟩
  · simp at hc

theorem cell_at {p : Place} {cs : Array Value} {e : TypeId} {fz : Nat × Nat} (hw : w.heap[p.block]? = some (.cells cs e fz)) (k : Nat) :
    w.cell? ⟨p.block, k, none⟩ = cs[k]? := by simp [World.cell?, hw]

/-- a row of cells, loaded -/
theorem loadCellsFrom_run {p : Place} {cs : Array Value} {e : TypeId} {fz : Nat × Nat} (hw : w.heap[p.block]? = some (.cells cs e fz)) (off : Nat) :
    ∀ (n i : Nat) (acc : Array Value), off + i + n ≤ cs.size →
      (loadCellsFrom ⟨p.block, off, none⟩ i n acc).run P w = .ok (acc ++ cs.extract (off + i) (off + i + n)) w := by
  intro n
  induction n with
  | zero => intro i acc hle; simp [loadCellsFrom]; omega
  | succ n ih =>
    intro i acc hle
    have hlt : off + i < cs.size := by omega
    have hadd : (Addr.add ⟨p.block, off, none⟩ i) = ⟨p.block, off + i, none⟩ := by
      unfold Addr.add; split
      · subst i; rfl
      · rfl
    simp only [loadCellsFrom, Sem.run_bind, hadd, run_load, cell_at hw, Array.getElem?_eq_getElem hlt, Result.andThen_ok]
    rw [ih (i + 1) _ (by omega)]
    congr 1
    apply Array.ext'
    simp only [Array.toList_append, Array.toList_push, Array.toList_extract, List.append_assoc, List.extract_eq_take_drop]
    congr 1
    have e1 : off + i + (n + 1) - (off + i) = n + 1 := by omega
    have e2 : off + (i + 1) + n - (off + (i + 1)) = n := by omega
    rw [e1, e2]
    have hlt' : off + i < cs.toList.length := by simpa using hlt
    rw [List.drop_eq_getElem_cons hlt', List.take_succ_cons]
    simp [Nat.add_assoc]
theorem loadCells_run {p : Place} {cs : Array Value} {e : TypeId} {fz : Nat × Nat} (hw : w.heap[p.block]? = some (.cells cs e fz)) (off n : Nat) (hle : off + n ≤ cs.size) :
    (loadCells ⟨p.block, off, none⟩ n).run P w = .ok (cs.extract off (off + n)) w := by
  unfold loadCells
  rw [loadCellsFrom_run hw off n 0 #[] (by omega)]
  simp

theorem CRel.size {base : Nat} {c : List AVal} {cs : Array Value} (h : CRel f base c cs) (hc : c ≠ []) : base + c.length ≤ cs.size := by
  have hl : 0 < c.length := by cases c <;> simp_all
  obtain ⟨v', hv, _⟩ := h (c.length - 1) (c[c.length - 1]) (by rw [List.getElem?_eq_getElem])
  have := (Array.getElem?_eq_some_iff.1 hv).1
  omega

theorem CRel.part {base off n : Nat} {c l : List AVal} {cs : Array Value} (h : CRel f base c cs) (hl : takeN n (dropN off c) = some l) :
    VsRel f l (cs.extract (base + off) (base + off + n)).toList ∧ (0 < n → base + off + n ≤ cs.size) := by
  obtain ⟨h1, rfl⟩ := takeN_some _ _ _ hl
  rw [dropN_eq] at h1 ⊢
  simp only [List.length_drop] at h1
  have hs : 0 < n → base + off + n ≤ cs.size := by
    intro hn
    have := h.size (by rintro rfl; simp at h1; omega)
    omega
  refine ⟨?_, hs⟩
  rw [Array.toList_extract, List.extract_eq_take_drop]
  have e : base + off + n - (base + off) = n := by omega
  rw [e]
  by_cases hn : n = 0
  · subst hn; simp; exact VsRel.nil
  have hs := hs (by omega)
  refine VsRel.mk (by simp; omega) ?_
  intro i x y hx hy
  rw [List.getElem?_take] at hx hy
  split at hx
  · rename_i hi
    rw [if_pos hi] at hy
    rw [List.getElem?_drop] at hx hy
    obtain ⟨v', hv, r⟩ := h _ _ hx
    have : base + (off + i) = base + off + i := by omega
    rw [this] at hv
    have hy' : cs[base + off + i]? = some y := by simpa using hy
    rw [hy'] at hv; cases hv; exact r
  · simp at hx

/-- a variable, loaded -/
theorem run_load_var (hA : A.Ok P) (hH : HRel E f (hget L h) nx w) {t : TypeId} {b : Pos} {off : Nat} {a : AVal} (hl : loadA A L h t b off = some a) :
    ∃ p v, f b = some p ∧ (loadVar t ⟨p.block, p.base + off, none⟩).run P w = .ok v w ∧ VRel f a v := by
  unfold loadA at hl
  split at hl
  · rename_i c hc
    obtain ⟨p, cs, e, fz, o, s, r, hg, hp, hw, hr⟩ := cells_of hH hc
    refine ⟨p, ?_⟩
    unfold partA at hl
    split at hl
    · rename_i hag
      split at hl
      · rename_i n hn
        split at hl
        · rename_i l hl'
          simp at hl; subst hl
          obtain ⟨h1, h2⟩ := hr.part hl'
          by_cases hn0 : n = 0
          · subst hn0
            refine ⟨.agg #[], hp, by simp [loadVar, run_isAgg hA hag, run_size hA hn, loadCells, loadCellsFrom], ⟨_, rfl, ?_⟩⟩
            obtain ⟨_, rfl⟩ := takeN_some _ _ _ hl'
            exact VsRel.nil
          · refine ⟨.agg (cs.extract (p.base + off) (p.base + off + n)), hp, ?_, ⟨_, rfl, h1⟩⟩
            simp [loadVar, run_isAgg hA hag, run_size hA hn, loadCells_run hw _ _ (h2 (by omega))]
        · simp at hl
      · simp at hl
    · rename_i hag
      rw [nth_eq] at hl
      obtain ⟨v, hv, r⟩ := hr _ _ hl
      exact ⟨v, hp, by simp [loadVar, run_isAgg hA hag, cell_at hw, hv], r⟩
    · simp at hl
  · simp at hl
end
end Go.Abs

namespace Go.Abs
section
variable {A : AProg} {P : Program} {L : List (PTree AObj)} {E : Keep} {f : Inj} {h : Heap} {nx : Pos} {w : World}

theorem bytesOf_inj {s t : ByteArray} (e : bytesOf s = bytesOf t) : s = t := by
  unfold bytesOf at e
  have h1 : s.data.toList = t.data.toList := by
    have hinj : ∀ a b : UInt8, a.toNat = b.toNat → a = b := fun a b h => UInt8.toNat_inj.1 h
    exact (List.map_inj_right (fun {a b} h => hinj a b h)).1 e
  cases s; cases t
  simp at h1
  simp [h1]
theorem toList_eq_iff (s t : ByteArray) : (s.toList == t.toList) = true ↔ s = t := by
  simp only [ByteArray.toList_eq, beq_iff_eq]
  constructor
  · intro e; cases s; cases t; simp at e; simp [e]
  · intro e; rw [e]

theorem byteArray_beq (s t : ByteArray) : (s == t) = true ↔ s = t := by
  obtain ⟨a⟩ := s
  obtain ⟨b⟩ := t
  have : ((⟨a⟩ : ByteArray) == ⟨b⟩) = (a == b) := rfl
  rw [this, beq_iff_eq]
  constructor
  · intro e; rw [e]
  · intro e; cases e; rfl

set_option maxHeartbeats 1000000 in
theorem equalIn_scalar (hA : A.Ok P) {t : TypeId} {d : TypeDesc} (hu : und A t = some d) {a b : AVal} {va vb : Value} (ha : VRel f a va) (hb : VRel f b vb) {r : Bool}
    (hr : eqScalar d a b = some r) (n : Nat) : (Op.equalIn (n + 1) t va vb).run P w = .ok r w := by
  unfold eqScalar at hr
  split at hr <;> (try simp only [VRel] at ha hb)
  all_goals try simp only [reduceCtorEq] at hr
  · subst ha hb; simp at hr; subst hr; simp [Op.equalIn, run_und hA hu, beqBool_eq]
  · subst ha hb
    rw [cond_eq] at hr
    split at hr
    · rename_i hk; rw [beqKind_iff] at hk; subst hk; simp at hr; subst hr; simp [Op.equalIn, run_und hA hu, beqInt_eq]
    · simp at hr
  · obtain ⟨s, rfl, rfl⟩ := ha
    obtain ⟨s', rfl, rfl⟩ := hb
    simp at hr; subst hr
    have e : (s == s') = beqStr (bytesOf s) (bytesOf s') := by
      rw [Bool.eq_iff_iff, beqStr_iff, byteArray_beq]
      exact ⟨fun e => e ▸ rfl, fun e => bytesOf_inj e⟩
    simp [Op.equalIn, run_und hA hu, e]
  all_goals first
    | (subst ha hb; simp at hr; subst hr; simp [Op.equalIn, run_und hA hu]; done)
    | (obtain ⟨p, _, rfl⟩ := ha; subst hb; simp at hr; subst hr; simp [Op.equalIn, run_und hA hu]; done)
    | (obtain ⟨p, _, rfl⟩ := hb; subst ha; simp at hr; subst hr; simp [Op.equalIn, run_und hA hu]; done)
    | (obtain ⟨p, _, rfl, _⟩ := ha; subst hb; simp at hr; subst hr; simp [Op.equalIn, run_und hA hu]; done)
    | (obtain ⟨p, _, rfl, _⟩ := hb; subst ha; simp at hr; subst hr; simp [Op.equalIn, run_und hA hu]; done)
    | (obtain ⟨p, _, _, ⟨c, rfl, _⟩ | ⟨_, _, c, rfl⟩⟩ := ha <;> subst hb <;> simp at hr <;> subst hr <;> simp [Op.equalIn, run_und hA hu]; done)
    | (obtain ⟨p, _, _, ⟨c, rfl, _⟩ | ⟨_, _, c, rfl⟩⟩ := hb <;> subst ha <;> simp at hr <;> subst hr <;> simp [Op.equalIn, run_und hA hu]; done)
    | (obtain ⟨p, rfl, _⟩ := ha; subst hb; simp at hr; subst hr; simp [Op.equalIn, run_und hA hu]; done)
    | (obtain ⟨p, rfl, _⟩ := hb; subst ha; simp at hr; subst hr; simp [Op.equalIn, run_und hA hu]; done)
    | (obtain ⟨p, q, rfl, _⟩ := ha; subst hb; simp at hr; subst hr; simp [Op.equalIn, run_und hA hu]; done)
    | (obtain ⟨p, q, rfl, _⟩ := hb; subst ha; simp at hr; subst hr; simp [Op.equalIn, run_und hA hu]; done)

/-- a plain block is seen by no string -/
theorem plain_of (hH : HRel E f (hget L h) nx w) {b : Pos} (hb : plainBlock L h b = true) :
    ∃ p cs e fz c o r, hget L h b = some (.cells c o false r) ∧ f b = some p ∧ w.heap[p.block]? = some (.cells cs e fz) ∧ fz.2 ≤ fz.1 := by
  unfold plainBlock at hb
  split at hb
  · rename_i c o r hg
    obtain ⟨p, ob, hp, hw, hr⟩ := hH.objs _ _ hg rfl
    obtain ⟨cs, e, fz, rfl, _, _, _, h2⟩ := hr
    exact ⟨p, cs, e, fz, c, o, r, hg, hp, hw, h2 rfl⟩
  · simp at hb

theorem plain_facts {b : Nat} {cs : Array Value} {e : TypeId} {fz : Nat × Nat} (hw : w.heap[b]? = some (.cells cs e fz)) (hf : fz.2 ≤ fz.1) (k : Nat) (sp : Option Nat) :
    w.frozen? ⟨b, k, sp⟩ = false ∧ w.shape? b = some (e, cs.size) := by
  refine ⟨?_, by simp [World.shape?, hw]⟩
  simp only [World.frozen?, hw]
  simp
  intro hk
  omega

theorem equalIn_ptr (hA : A.Ok P) (hH : HRel E f (hget L h) nx w) {t e : TypeId} (hu : und A t = some (.pointer e)) {a b : Pos} {o q : Nat} {va vb : Value}
    (ha : VRel f (.ptr a o) va) (hb : VRel f (.ptr b q) vb) {r : Bool} (hr : eqPtr A L h e a o b q = some r) (n : Nat) : (Op.equalIn (n + 1) t va vb).run P w = .ok r w := by
  obtain ⟨pa, hpa, rfl⟩ := ha
  obtain ⟨pb, hpb, rfl⟩ := hb
  unfold eqPtr at hr
  split at hr
  · rename_i s hs
    rw [cond_eq] at hr
    split at hr
    · rename_i hab
      rw [Pos.beq_iff] at hab; subst hab
      rw [hpa] at hpb; cases hpb
      simp at hr; subst hr
      simp [Op.equalIn, run_und hA hu, run_size hA hs, sameAddr]
      rw [Bool.eq_iff_iff]; simp
    · rename_i hab
      rw [Pos.beq_iff] at hab
      rw [cond_eq] at hr
      split at hr
      · rename_i hpl
        simp at hr; subst hr
        simp only [Bool.and_eq_true] at hpl
        obtain ⟨p, cs, e1, fz, c, o1, r1, hg, hp, hw, hf⟩ := plain_of hH hpl.1
        obtain ⟨p', cs', e1', fz', c', o1', r1', hg', hp', hw', hf'⟩ := plain_of hH hpl.2
        rw [hpa] at hp; cases hp
        rw [hpb] at hp'; cases hp'
        have hne := hH.sep a b _ _ _ _ hg hg' rfl rfl hab hpa hpb
        have F := plain_facts hw hf
        have F' := plain_facts hw' hf'
        simp [Op.equalIn, run_und hA hu, run_size hA hs, sameAddr, hne, (F _ _).1, noView, viewAt, (F 0 none).2, (F' 0 none).2, mayBeOne, stringish, (F' _ _).1]
      · simp at hr
  · simp at hr

theorem equalIn_plain (hA : A.Ok P) (hH : HRel E f (hget L h) nx w) {t : TypeId} {a b : AVal} {va vb : Value} (ha : VRel f a va) (hb : VRel f b vb) {r : Bool}
    (hr : eqPlain A L h t a b = some r) (n : Nat) : (Op.equalIn (n + 1) t va vb).run P w = .ok r w := by
  unfold eqPlain at hr
  split at hr
  · rename_i d hu
    split at hr
    · exact equalIn_ptr hA hH hu ha hb hr n
    · exact equalIn_scalar hA hu ha hb hr n
  · simp at hr
end
end Go.Abs

namespace Go.Abs
section
variable {A : AProg} {P : Program} {L : List (PTree AObj)} {E : Keep} {f : Inj} {h : Heap} {nx : Pos} {w : World}

/-- what '==' does with the elements of two arrays -/
def eqElems (d : Nat) (e : TypeId) (s : Nat) (xs ys : Array Value) : Nat → Nat → Sem Bool
  | 0, _ => pure true
  | n + 1, i => do
    let a ← part e xs (i * s)
    let b ← part e ys (i * s)
    let r ← Op.equalIn d e a b
    if (!r) = true then pure false else eqElems d e s xs ys n (i + 1)

theorem run_equalIn_array (hA : A.Ok P) (d : Nat) {t e : TypeId} {n s : Nat} (xs ys : Array Value) (ht : und A t = some (.array n e)) (hs : sizeA A e = some s) :
    (Op.equalIn (d + 1) t (.agg xs) (.agg ys)).run P w = (eqElems d e s xs ys n 0).run P w := by
  simp only [Op.equalIn, Sem.run_bind, run_und hA ht, Result.andThen_ok, run_size hA hs]
  rw [Std.Legacy.Range.forIn_eq_forIn_range']
  simp only [Std.Legacy.Range.size]
  have hn : (n - 0 + 1 - 1) / 1 = n := by simp
  rw [hn]
  clear hn ht
  generalize 0 = i
  induction n generalizing w i with
  | zero => simp [eqElems]
  | succ n ih =>
    simp only [List.range'_succ, List.forIn_cons, eqElems, Sem.run_bind, Sem.run_ite]
    generalize (part e xs (i * s)).run P w = r1
    cases r1 with
    | ok a w1 =>
      simp only [Result.andThen_ok]
      generalize (part e ys (i * s)).run P w1 = r2
      cases r2 with
      | ok b w2 =>
        simp only [Result.andThen_ok]
        generalize (Op.equalIn d e a b).run P w2 = r3
        cases r3 with
        | ok r w3 =>
          cases r
          · simp only [Result.andThen_ok, Bool.not_false, if_true, Sem.run_pure]
          · simp only [Result.andThen_ok, Bool.not_true, Bool.false_eq_true, if_false, Sem.run_pure]
            exact ih (i + 1)
        | halt x w3 => simp [Result.andThen]
      | halt x w2 => simp [Result.andThen]
    | halt x w1 => simp [Result.andThen]

theorem eqFs_ok (hA : A.Ok P) {d : Nat} {rec : TypeId → AVal → AVal → Option Bool}
    (hrec : ∀ t a b r, rec t a b = some r → ∀ va vb, VRel f a va → VRel f b vb → (Op.equalIn d t va vb).run P w = .ok r w) :
    ∀ (fs : List Field) (xs ys : List AVal) (r : Bool), eqA.eqFs A rec fs xs ys = some r → ∀ (vx vy : Array Value), VsRel f xs vx.toList → VsRel f ys vy.toList →
      (Op.eqFields d vx vy fs).run P w = .ok r w := by
  intro fs
  induction fs with
  | nil => intro xs ys r hr vx vy _ _; simp [eqA.eqFs] at hr; subst hr; simp [Op.eqFields]
  | cons fl fs ih =>
    intro xs ys r hr vx vy hx hy
    simp only [eqA.eqFs] at hr
    split at hr
    · rename_i a b ha hb
      obtain ⟨va, hva, ra⟩ := run_part hA ha hx w
      obtain ⟨vb, hvb, rb⟩ := run_part hA hb hy w
      split at hr
      · rename_i hab
        have := hrec _ _ _ _ hab va vb ra rb
        simp only [Op.eqFields]
        split
        · simp [hva, hvb, this, ih xs ys r hr vx vy hx hy]
        · exact ih xs ys r hr vx vy hx hy
      · rename_i hab
        have := hrec _ _ _ _ hab va vb ra rb
        rw [cond_eq] at hr
        split at hr
        · simp at hr
        · rename_i hname
          simp at hr; subst hr
          simp only [Op.eqFields]
          rw [if_pos (by simpa using hname)]
          simp [hva, hvb, this]
      · simp at hr
    · simp at hr

theorem eqEs_ok (hA : A.Ok P) {d : Nat} {rec : TypeId → AVal → AVal → Option Bool} {e : TypeId} {s : Nat}
    (hrec : ∀ t a b r, rec t a b = some r → ∀ va vb, VRel f a va → VRel f b vb → (Op.equalIn d t va vb).run P w = .ok r w) :
    ∀ (n i off : Nat) (xs ys : List AVal) (r : Bool), off = i * s → eqA.eqEs A rec e s n off xs ys = some r → ∀ (vx vy : Array Value), VsRel f xs vx.toList → VsRel f ys vy.toList →
      (eqElems d e s vx vy n i).run P w = .ok r w := by
  intro n
  induction n with
  | zero => intro i off xs ys r _ hr vx vy _ _; simp [eqA.eqEs] at hr; subst hr; simp [eqElems]
  | succ n ih =>
    intro i off xs ys r ho hr vx vy hx hy
    simp only [eqA.eqEs] at hr
    split at hr
    · rename_i a b ha hb
      obtain ⟨va, hva, ra⟩ := run_part hA ha hx w
      obtain ⟨vb, hvb, rb⟩ := run_part hA hb hy w
      subst ho
      split at hr
      · rename_i hab
        have := hrec _ _ _ _ hab va vb ra rb
        simp only [eqElems]
        simp [hva, hvb, this, ih (i + 1) (i * s + s) xs ys r (by rw [Nat.succ_mul]) hr vx vy hx hy]
      · rename_i hab
        have := hrec _ _ _ _ hab va vb ra rb
        simp at hr; subst hr
        simp only [eqElems]
        simp [hva, hvb, this]
      · simp at hr
    · simp at hr

theorem equalIn_ok (hA : A.Ok P) (hH : HRel E f (hget L h) nx w) : ∀ (n : Nat) (t : TypeId) (a b : AVal) (r : Bool), eqA A L h n t a b = some r →
    ∀ (va vb : Value), VRel f a va → VRel f b vb → ∀ d, n ≤ d → (Op.equalIn d t va vb).run P w = .ok r w := by
  intro n
  induction n with
  | zero => intro t a b r hr; simp [eqA] at hr
  | succ n ih =>
    intro t a b r hr va vb ha hb d hd
    obtain ⟨d, rfl⟩ : ∃ m, d = m + 1 := ⟨d - 1, by omega⟩
    simp only [eqA] at hr
    split at hr
    · rename_i xs ys
      obtain ⟨vx, rfl, hx⟩ := ha
      obtain ⟨vy, rfl, hy⟩ := hb
      have hrec : ∀ t a b r, eqA A L h n t a b = some r → ∀ va vb, VRel f a va → VRel f b vb → (Op.equalIn d t va vb).run P w = .ok r w :=
        fun t a b r h1 va vb h2 h3 => ih t a b r h1 va vb h2 h3 d (by omega)
      split at hr
      · rename_i fs hu
        split at hr
        · rename_i u hpl
          have hu' := und_ok hA hu
          have hf : P.fieldsOf t = fs := by simp [Program.fieldsOf, hu']
          rw [run_equalIn_struct w d t vx vy (by rw [hf]; exact hu') (hA.plain _ _ hpl), hf]
          exact eqFs_ok hA hrec fs.toList xs ys r hr vx vy hx hy
        · simp at hr
      · rename_i m e hu
        split at hr
        · rename_i s hs
          rw [run_equalIn_array hA d vx vy hu hs]
          exact eqEs_ok hA hrec m 0 0 xs ys r (by simp) hr vx vy hx hy
        · simp at hr
      · simp at hr
    · exact equalIn_plain hA hH ha hb hr d
end
end Go.Abs

namespace Go.Abs
section
variable {A : AProg} {P : Program} {L : List (PTree AObj)} {E : Keep} {f : Inj} {h : Heap} {nx : Pos} {w : World}

theorem guardFree_ok (hA : A.Ok P) : ∀ (n : Nat) (t : TypeId), guardFree A n t = true → ∀ d, n ≤ d → P.eqGuardType d t = false := by
  intro n
  induction n with
  | zero => intro t h; simp [guardFree] at h
  | succ n ih =>
    intro t hg d hd
    obtain ⟨d, rfl⟩ : ∃ m, d = m + 1 := ⟨d - 1, by omega⟩
    simp only [guardFree] at hg
    have hfs : ∀ fs : List Field, guardFree.gFs (guardFree A n) fs = true → (fs.any fun f => f.name != "_" && P.eqGuardType d f.type) = false := by
      intro fs
      induction fs with
      | nil => intro _; rfl
      | cons x fs ih2 =>
        intro hx
        simp only [guardFree.gFs, cond_eq] at hx
        split at hx
        · rename_i h1
          simp only [List.any_cons, ih x.type h1 d (by omega), Bool.and_false, Bool.false_or]
          exact ih2 hx
        · simp at hx
    split at hg
    · rename_i ms hu
      simp [Program.eqGuardType, und_ok hA hu, hg]
    · rename_i fs hu
      have := hfs _ hg
      rw [Program.eqGuardType, und_ok hA hu]
      show (fs.any fun f => f.name != "_" && P.eqGuardType d f.type) = false
      rw [← Array.any_toList]; exact this
    · rename_i m e hu
      simp [Program.eqGuardType, und_ok hA hu, ih _ hg d (by omega)]
    · rename_i d' h1 h2 h3 hu
      rw [Program.eqGuardType, und_ok hA hu]
      cases d' <;> first | rfl | (exfalso; first | exact h1 _ rfl | exact h2 _ rfl | exact h3 _ _ rfl)
    · simp at hg

theorem guard_eq (op : BinOp) (hop : op = .eql ∨ op = .neq) (hA : A.Ok P) (hH : HRel E f (hget L h) nx w) {t : TypeId} {x y : Operand} {a b : AVal} {va vb : Value}
    (ha : VRel f a va) (hb : VRel f b vb) {r : Bool} (hr : eqTop A L h t x y a b = some r) :
    (eqGuard op t x y va vb).run P w = .ok () w ∧ (Op.equal t va vb).run P w = .ok r w := by
  unfold eqTop at hr
  split at hr
  · rw [VRel] at ha hb; subst ha hb
    rw [cond_eq] at hr
    split at hr
    · rename_i hc
      refine ⟨?_, equalIn_plain hA hH (a := .nilIface) (b := .nilIface) rfl rfl hr 9999⟩
      clear hr
      rcases hop with rfl | rfl <;> cases x <;> cases y <;> simp [isConst] at hc <;> simp [eqGuard]
    · simp at hr
  · rename_i xs ys
    rw [cond_eq] at hr
    split at hr
    · rename_i hg
      have hq := equalIn_ok hA hH 40 t _ _ r hr va vb ha hb 10000 (by omega)
      obtain ⟨vx, rfl, hx⟩ := ha
      obtain ⟨vy, rfl, hy⟩ := hb
      exact ⟨run_eqGuard_agg w op t x y vx vy (guardFree_ok hA 40 t hg _ hA.depth), hq⟩
    · simp at hr
  · rename_i h1 h2
    refine ⟨?_, equalIn_plain hA hH ha hb hr 9999⟩
    unfold eqGuard
    have h3 : ¬ (va = .nilIface ∧ vb = .nilIface) := by
      rintro ⟨rfl, rfl⟩
      have e1 : a = .nilIface := by cases a <;> simp [VRel] at ha <;> first | rfl | skip
      have e2 : b = .nilIface := by cases b <;> simp [VRel] at hb <;> first | rfl | skip
      subst e1 e2
      exact h1 rfl rfl
    have h4 : ∀ xs ys, ¬ (va = .agg xs ∧ vb = .agg ys) := by
      rintro xs ys ⟨rfl, rfl⟩
      have e1 : ∃ l, a = .agg l := by cases a <;> simp [VRel] at ha <;> first | exact ⟨_, rfl⟩ | skip
      have e2 : ∃ l, b = .agg l := by cases b <;> simp [VRel] at hb <;> first | exact ⟨_, rfl⟩ | skip
      obtain ⟨l, rfl⟩ := e1
      obtain ⟨m, rfl⟩ := e2
      exact h2 _ _ rfl rfl
    rcases hop with rfl | rfl <;> (simp; split <;> first | rfl | (exfalso; first | exact h3 ⟨rfl, rfl⟩ | exact h4 _ _ ⟨rfl, rfl⟩))

theorem intOp_ok {op : BinOp} {k : IntKind} {m n : Int} {r : AVal} (hs : isShift op = false) (hr : intOp op k m n = some r) (t : TypeId) :
    ∃ v, (binOp op t (.int k m) (.int k n)).run P w = .ok v w ∧ VRel f r v := by
  unfold intOp at hr
  split at hr <;> (try simp [isShift] at hs) <;> (try simp only [wrapA_eq, beqInt_eq, leInt_eq, cond_eq] at hr)
  case _ => simp at hr; subst hr; exact ⟨_, by simp [binOp, Op.intArith], rfl⟩
  case _ => simp at hr; subst hr; exact ⟨_, by simp [binOp, Op.intArith], rfl⟩
  case _ => simp at hr; subst hr; exact ⟨_, by simp [binOp, Op.intArith], rfl⟩
  case _ =>
    split at hr
    · simp at hr
    · rename_i h0; simp at hr; subst hr; exact ⟨_, by have : n ≠ 0 := by simpa using h0
                                                      simp [binOp, Op.intDiv, this], rfl⟩
  case _ =>
    split at hr
    · simp at hr
    · rename_i h0; simp at hr; subst hr; exact ⟨_, by have : n ≠ 0 := by simpa using h0
                                                      simp [binOp, Op.intDiv, this], rfl⟩
  case _ => simp at hr; subst hr; exact ⟨_, by simp [binOp, Op.intBits], rfl⟩
  case _ => simp at hr; subst hr; exact ⟨_, by simp [binOp, Op.intBits], rfl⟩
  case _ => simp at hr; subst hr; exact ⟨_, by simp [binOp, Op.intBits], rfl⟩
  case _ => simp at hr; subst hr; exact ⟨_, by simp [binOp, Op.intBits], rfl⟩
  case _ => simp at hr; subst hr; exact ⟨_, by simp [binOp, Op.intCmp], rfl⟩
  case _ => simp at hr; subst hr; exact ⟨_, by simp [binOp, Op.intCmp, bne], rfl⟩
  case _ =>
    have e : decide (m < n) = !decide (n ≤ m) := by rw [Bool.eq_iff_iff]; simp
    simp at hr; subst hr; exact ⟨_, by simp [binOp, Op.intCmp, e], rfl⟩
  case _ => simp at hr; subst hr; exact ⟨_, by simp [binOp, Op.intCmp], rfl⟩
  case _ =>
    have e : decide (n < m) = !decide (m ≤ n) := by rw [Bool.eq_iff_iff]; simp
    simp at hr; subst hr; exact ⟨_, by simp [binOp, Op.intCmp, e], rfl⟩
  case _ => simp at hr; subst hr; exact ⟨_, by simp [binOp, Op.intCmp], rfl⟩
  case _ => simp at hr

theorem shiftOp_ok {op : BinOp} {k j : IntKind} {m n : Int} {r : AVal} (hr : shiftOp op k m n = some r) (t : TypeId) :
    ∃ v, (binOp op t (.int k m) (.int j n)).run P w = .ok v w ∧ VRel f r v := by
  unfold shiftOp at hr
  split at hr <;> (try simp at hr) <;> simp only [leInt_eq, cond_eq] at hr
  all_goals
    split at hr
    · rename_i h0
      have h0 : ¬ n < 0 := by simpa using h0
      simp at hr; subst hr; exact ⟨_, by simp [binOp, Op.shift, h0], rfl⟩
    · simp at hr

theorem strOp_ok {op : BinOp} {a b : List Nat} {va vb : Value} {r : AVal} (ha : VRel f (.str a) va) (hb : VRel f (.str b) vb) (hr : strOp op a b = some r) (t : TypeId) :
    ∃ v, (binOp op t va vb).run P w = .ok v w ∧ VRel f r v := by
  obtain ⟨s, rfl, rfl⟩ := ha
  obtain ⟨s', rfl, rfl⟩ := hb
  have e : (s.toList == s'.toList) = beqStr (bytesOf s) (bytesOf s') := by
    rw [Bool.eq_iff_iff, beqStr_iff, toList_eq_iff]
    exact ⟨fun e => e ▸ rfl, fun e => bytesOf_inj e⟩
  unfold strOp at hr
  split at hr
  · simp at hr; subst hr; exact ⟨_, by simp [binOp, Op.stringOp, e], rfl⟩
  · simp at hr; subst hr; exact ⟨_, by simp [binOp, Op.stringOp, e], rfl⟩
  · rw [cond_eq] at hr
    split at hr
    · rename_i hlen
      simp at hr; subst hr
      have hlen : (bytesOf s).length + (bytesOf s').length ≤ 1048576 := by simpa using hlen
      have h1 : (bytesOf s).length = s.size := by simp [bytesOf]
      have h2 : (bytesOf s').length = s'.size := by simp [bytesOf]
      refine ⟨.string (s ++ s'), ?_, ⟨_, rfl, ?_⟩⟩
      · simp only [binOp, Op.stringOp]
        rw [if_neg (by simp [IntKind.max, IntKind.signed, IntKind.bits]; omega)]
        rfl
      · simp [bytesOf]
    · simp at hr
  · simp at hr

theorem binA_ok (hA : A.Ok P) (hH : HRel E f (hget L h) nx w) {op : BinOp} {t : TypeId} {x y : Operand} {a b : AVal} {va vb : Value}
    (ha : VRel f a va) (hb : VRel f b vb) {r : AVal} (hr : binA A L h op t x y a b = some r) :
    ∃ v, (do eqGuard op t x y va vb; binOp op t va vb : Sem Value).run P w = .ok v w ∧ VRel f r v := by
  have hgi : ∀ (k j : IntKind) (m n : Int), (eqGuard op t x y (.int k m) (.int j n)).run P w = .ok () w := by
    intro k j m n; cases op <;> simp [eqGuard]
  have hgs : ∀ (m n : ByteArray), (eqGuard op t x y (.string m) (.string n)).run P w = .ok () w := by
    intro m n; cases op <;> simp [eqGuard]
  unfold binA at hr
  split at hr
  · rename_i k m j n
    rw [VRel] at ha hb; subst ha hb
    simp only [cond_eq] at hr
    split at hr
    · obtain ⟨v, hv, hrel⟩ := shiftOp_ok (P := P) (w := w) (f := f) (j := j) hr t
      exact ⟨v, by simp [hgi, hv], hrel⟩
    · rename_i hs
      split at hr
      · rename_i hk; rw [beqKind_iff] at hk; subst hk
        obtain ⟨v, hv, hrel⟩ := intOp_ok (P := P) (w := w) (f := f) (by simpa using hs) hr t
        exact ⟨v, by simp [hgi, hv], hrel⟩
      · simp at hr
  · obtain ⟨v, hv, hrel⟩ := strOp_ok (P := P) (w := w) ha hb hr t
    obtain ⟨s, rfl, rfl⟩ := ha
    obtain ⟨s', rfl, rfl⟩ := hb
    exact ⟨v, by simp [hgs, hv], hrel⟩
  · rename_i h1 h2
    have hni : ∀ k j m n, ¬ (va = .int k m ∧ vb = .int j n) := by
      rintro k j m n ⟨rfl, rfl⟩
      have e1 : a = .int k m := by cases a <;> simp [VRel] at ha <;> simp [ha]
      have e2 : b = .int j n := by cases b <;> simp [VRel] at hb <;> simp [hb]
      exact h1 _ _ _ _ e1 e2
    have hns : ∀ m n, ¬ (va = .string m ∧ vb = .string n) := by
      rintro m n ⟨rfl, rfl⟩
      have e1 : ∃ l, a = .str l := by cases a <;> simp [VRel] at ha <;> exact ⟨_, rfl⟩
      have e2 : ∃ l, b = .str l := by cases b <;> simp [VRel] at hb <;> exact ⟨_, rfl⟩
      obtain ⟨l, rfl⟩ := e1
      obtain ⟨l', rfl⟩ := e2
      exact h2 _ _ rfl rfl
    have hnf : ∀ k m, va ≠ .float k m := by rintro k m rfl; cases a <;> simp [VRel] at ha
    have hnc : ∀ k m n, va ≠ .complex k m n := by rintro k m n rfl; cases a <;> simp [VRel] at ha
    split at hr
    · split at hr
      · rename_i r' hr'
        simp at hr; subst hr
        obtain ⟨g1, g2⟩ := guard_eq .eql (.inl rfl) hA hH ha hb hr'
        refine ⟨.bool r', ?_, rfl⟩
        have : (binOp .eql t va vb).run P w = .ok (.bool r') w := by
          unfold binOp
          split <;> first
            | (exfalso; exact hni _ _ _ _ ⟨rfl, rfl⟩)
            | (exfalso; exact hns _ _ ⟨rfl, rfl⟩)
            | (exfalso; exact hnf _ _ rfl)
            | (exfalso; exact hnc _ _ _ rfl)
            | (simp_all; done)
        simp [g1, this]
      · simp at hr
    · split at hr
      · rename_i r' hr'
        simp at hr; subst hr
        obtain ⟨g1, g2⟩ := guard_eq .neq (.inr rfl) hA hH ha hb hr'
        refine ⟨.bool (!r'), ?_, rfl⟩
        have : (binOp .neq t va vb).run P w = .ok (.bool (!r')) w := by
          unfold binOp
          split <;> first
            | (exfalso; exact hni _ _ _ _ ⟨rfl, rfl⟩)
            | (exfalso; exact hns _ _ ⟨rfl, rfl⟩)
            | (exfalso; exact hnf _ _ rfl)
            | (exfalso; exact hnc _ _ _ rfl)
            | (simp_all; done)
        simp [g1, this]
      · simp at hr
    · simp at hr

theorem unA_ok {op : UnOp} {x r : AVal} {v : Value} (hx : VRel f x v) (hr : unA op x = some r) : ∃ v', (Op.unary op v).run P w = .ok v' w ∧ VRel f r v' := by
  unfold unA at hr
  split at hr
  · rw [VRel] at hx; subst hx; simp at hr; subst hr
    rw [wrapA_eq]; exact ⟨_, by simp [Op.unary, Op.intArith], rfl⟩
  · rw [VRel] at hx; subst hx; simp at hr; subst hr
    exact ⟨_, by simp [Op.unary], rfl⟩
  · simp at hr
end
end Go.Abs

namespace Go.Abs
section
variable {A : AProg} {P : Program} {L : List (PTree AObj)} {E : Keep} {f : Inj} {h : Heap} {nx : Pos} {w : World}

/-! ## conversions -/
theorem bytes_push (s : ByteArray) (b : UInt8) : bytesOf (s.push b) = bytesOf s ++ [b.toNat] := by
  obtain ⟨⟨l⟩⟩ := s
  simp [bytesOf, ByteArray.push]

theorem valsBytes_ok : ∀ (l : List AVal) (s : List Nat) (vs : List Value), valsBytes l = some s → VsRel f l vs → ∀ (acc : ByteArray) (w : World),
    ∃ r : ByteArray, (forIn vs acc (fun c s => (match c with
      | .int .u8 n => do let s : ByteArray := s.push (UInt8.ofNat n.toNat); pure (ForInStep.yield s)
      | _ => stuck "bytesToString: byte expected" : Sem (ForInStep ByteArray)))).run P w = .ok r w ∧ bytesOf r = bytesOf acc ++ s := by
  intro l
  induction l with
  | nil => intro s vs hs hv acc w; simp [valsBytes] at hs; subst hs; rw [VsRel] at hv; subst hv; exact ⟨acc, by simp, by simp⟩
  | cons a l ih =>
    intro s vs hs hv acc w
    rw [VsRel] at hv; obtain ⟨v, vs', rfl, hv, hvs⟩ := hv
    simp only [valsBytes] at hs
    split at hs
    · rename_i n
      rw [VRel] at hv; subst hv
      simp only [cond_eq] at hs
      split at hs
      · rename_i hlt
        split at hs
        · rename_i s' hs'
          simp at hs; subst hs
          obtain ⟨r, hr, hb⟩ := ih s' vs' hs' hvs (acc.push (UInt8.ofNat n)) w
          refine ⟨r, ?_, ?_⟩
          · simp only [List.forIn_cons, Sem.run_bind]
            simpa using hr
          · rw [hb, bytes_push]
            have : n < 256 := by have h := hlt; simp [Nat.blt] at h; omega
            simp; omega
        · simp at hs
      · simp at hs
    · simp at hs

theorem bytesText_ok (hH : HRel E f (hget L h) nx w) {b : Pos} {off len : Nat} {r : AVal} (hr : convA.bytesText L h b off len = some r) :
    ∃ p, f b = some p ∧ ∀ cap, ∃ v, (Conv.bytesToString (.slice (some ⟨p.block, p.base + off, none⟩) len cap)).run P w = .ok v w ∧ VRel f r v := by
  unfold convA.bytesText at hr
  split at hr
  · rename_i c hc
    obtain ⟨p, cs, e, fz, o, s, ro, hg, hp, hw, hrel⟩ := cells_of hH hc
    split at hr
    · rename_i l hl
      split at hr
      · rename_i t ht
        simp at hr; subst hr
        refine ⟨p, hp, fun cap => ?_⟩
        obtain ⟨h1, h2⟩ := hrel.part hl
        have hload : (loadCells ⟨p.block, p.base + off, none⟩ len).run P w = .ok (cs.extract (p.base + off) (p.base + off + len)) w := by
          by_cases hn : len = 0
          · subst hn; simp [loadCells, loadCellsFrom]; omega
          · exact loadCells_run hw _ _ (h2 (by omega))
        obtain ⟨bs, hb1, hb2⟩ := valsBytes_ok (P := P) l t _ ht h1 ByteArray.empty w
        refine ⟨.string bs, ?_, ⟨bs, rfl, by simpa [bytesOf] using hb2⟩⟩
        simp only [Conv.bytesToString, Sem.run_bind, hload, Result.andThen_ok]
        rw [← Array.forIn_toList]
        rw [show (ByteArray.empty) = ByteArray.empty from rfl]
        erw [hb1]
        simp
      · simp at hr
    · simp at hr
  · simp at hr

theorem convA_ok (hA : A.Ok P) (hH : HRel E f (hget L h) nx w) {s d : TypeId} {a r : AVal} {v : Value} (ha : VRel f a v) (hr : convA A L h s d a = some r) :
    ∃ v', (convert s d v).run P w = .ok v' w ∧ VRel f r v' := by
  unfold convA at hr
  split at hr
  · rename_i ds k k' n h1 h2
    rw [VRel] at ha; subst ha; simp at hr; subst hr
    exact ⟨_, by simp [convert, run_und hA h1, run_und hA h2, Conv.intToInt, wrapA_eq], rfl⟩
  · rename_i ds l h1 h2
    obtain ⟨t, rfl, rfl⟩ := ha
    simp at hr; subst hr
    exact ⟨.string t, by simp [convert, run_und hA h1, run_und hA h2], ⟨t, rfl, rfl⟩⟩
  · rename_i e h1 h2
    rw [VRel] at ha; subst ha
    split at hr
    · rename_i he
      simp at hr; subst hr
      exact ⟨.string .empty, by simp [convert, run_und hA h1, run_und hA h2, run_und hA he, Conv.bytesToString], ⟨_, rfl, rfl⟩⟩
    · simp at hr
  · rename_i e b off len cap h1 h2
    split at hr
    · rename_i he
      obtain ⟨p, hp, hv⟩ := bytesText_ok (P := P) hH hr
      obtain ⟨p', hp', rfl, _⟩ := ha
      rw [hp] at hp'; cases hp'
      obtain ⟨v', hv', hrel⟩ := hv cap
      exact ⟨v', by simp [convert, run_und hA h1, run_und hA h2, run_und hA he, hv'], hrel⟩
    · simp at hr
  · rename_i e b off len es h1 h2
    split at hr
    · rename_i he
      obtain ⟨p, hp, hv⟩ := bytesText_ok (P := P) hH hr
      obtain ⟨p', hp', _, hx⟩ := ha
      rw [hp] at hp'; cases hp'
      rcases hx with ⟨cap, rfl, _⟩ | ⟨rfl, _, a, rfl⟩
      · obtain ⟨v', hv', hrel⟩ := hv cap
        exact ⟨v', by simp [convert, run_und hA h1, run_und hA h2, run_und hA he, hv'], hrel⟩
      · refine ⟨.string .empty, by simp [convert, run_und hA h1, run_und hA h2, run_und hA he, Conv.bytesToString, loadCells, loadCellsFrom], ?_⟩
        unfold convA.bytesText at hr
        split at hr
        · simp [takeN, valsBytes] at hr; subst hr; exact ⟨_, rfl, rfl⟩
        · simp at hr
    · simp at hr
  · simp at hr

/-! ## structs and arrays made of parts -/
theorem foldl_set (off : Nat) : ∀ (vs : List Value) (i : Nat) (cs : Array Value), off + i + vs.length ≤ cs.size →
    ((vs.zipIdx i).foldl (fun (cs : Array Value) (x : Value × Nat) => cs.setIfInBounds (off + x.2) x.1) cs).toList = cs.toList.take (off + i) ++ vs ++ cs.toList.drop (off + i + vs.length) := by
  intro vs
  induction vs with
  | nil => intro i cs h; simp
  | cons v vs ih =>
    intro i cs h
    simp only [List.zipIdx_cons, List.foldl_cons]
    rw [ih (i + 1) _ (by simp at h ⊢; omega)]
    simp only [Array.toList_setIfInBounds, List.length_cons]
    simp only [List.length_cons] at h
    have h1 : off + i < cs.toList.length := by simp; omega
    rw [List.drop_set, if_pos (by omega)]
    have e1 : off + (i + 1) = off + i + 1 := by omega
    rw [e1, List.take_succ_eq_append_getElem (by simpa using h1), List.take_set, List.set_eq_of_length_le (by simp; omega)]
    simp
    omega

def PsRel (f : Inj) : List (Nat × AVal) → List (Nat × Value) → Prop
  | [], l => l = []
  | a :: r, l => ∃ v l', l = (a.1, v) :: l' ∧ VRel f a.2 v ∧ PsRel f r l'

theorem fill_ok {pa place : Nat → Option (Nat × Nat)} (hp : ∀ i r, pa i = some r → place i = some r) : ∀ (ps : List (Nat × AVal)) (cells c : List AVal),
    fillA pa cells ps = some c → ∀ (vps : List (Nat × Value)) (vc : Array Value), PsRel f ps vps → VsRel f cells vc.toList →
      ∃ vc', Instr.fill place vc vps = some vc' ∧ VsRel f c vc'.toList := by
  intro ps
  induction ps with
  | nil => intro cells c hc vps vc hps hv; simp [fillA] at hc; subst hc; rw [PsRel] at hps; subst hps; exact ⟨vc, rfl, hv⟩
  | cons a ps ih =>
    intro cells c hc vps vc hps hv
    obtain ⟨i, v⟩ := a
    rw [PsRel] at hps; obtain ⟨y, vps', rfl, hy, hps⟩ := hps
    simp only [fillA] at hc
    split at hc
    · simp at hc
    · rename_i off size hpl
      rw [cond_eq] at hc
      split at hc
      · rename_i hsz
        split at hc
        · rename_i c' hsp
          obtain ⟨h1, h2⟩ := splice_some _ _ _ _ hsp
          have hcell := VRel.cells hy
          have hlen := hcell.length
          have hlen2 := hv.length
          simp only [Array.length_toList] at hlen hlen2
          have hsz : v.cells.length = size := Nat.eq_of_beq_eq_true hsz
          simp only [Instr.fill, hp _ _ hpl]
          rw [if_neg (by simp; omega)]
          refine ih c' c hc vps' _ hps ?_
          have := foldl_set off y.cells.toList 0 vc (by simp; omega)
          simp only [Array.toList_zipIdx, ← Array.foldl_toList] at *
          erw [this]
          subst h2
          simp only [Nat.add_zero, hlen]
          rw [Array.length_toList]
          exact ((hv.take off).append hcell).append (hv.drop _)
        · simp at hc
      · simp at hc

theorem places_ok (hA : A.Ok P) : ∀ (fs : List Field) (ps : List (Nat × Nat)), placesA A fs = some ps → ∀ w,
    (fs.mapM (fun f => (do pure (f.offset, ← sizeOf f.type) : Sem (Nat × Nat)))).run P w = .ok ps w := by
  intro fs
  induction fs with
  | nil => intro ps h w; simp [placesA] at h; subst h; simp
  | cons x fs ih =>
    intro ps h w
    simp only [placesA] at h
    split at h
    · rename_i s r hs hr
      simp at h; subst h
      simp only [List.mapM_cons, Sem.run_bind, run_size hA hs, Result.andThen_ok, Sem.run_pure]
      rw [ih r hr w]; rfl
    · simp at h

theorem buildA_ok (hA : A.Ok P) {t : TypeId} {ps : List (Nat × AVal)} {r : AVal} (hr : buildA A t ps = some r) (vps : Array (Nat × Value)) (hps : PsRel f ps vps.toList) :
    ∃ v, (Instr.build t vps).run P w = .ok v w ∧ VRel f r v := by
  unfold buildA at hr
  split at hr
  · rename_i z fs hz hu
    obtain ⟨vz, hvz, rz⟩ := run_zero (f := f) hA hz w
    split at hr
    · rename_i pl hpl
      split at hr
      · rename_i c hc
        simp at hr; subst hr
        obtain ⟨vc, h1, h2⟩ := fill_ok (place := (pl.toArray[·]?)) (fun i r h => by simpa [nth_eq] using h) ps z.cells c hc vps.toList vz.cells hps (VRel.cells rz)
        refine ⟨.agg vc, ?_, ⟨vc, rfl, h2⟩⟩
        have hm : (fs.mapM (fun f => (do pure (f.offset, ← sizeOf f.type) : Sem (Nat × Nat)))).run P w = .ok pl.toArray w := by
          rw [Array.mapM_eq_mapM_toList, Sem.run_map, places_ok hA _ _ hpl]; rfl
        simp only [Instr.build, Sem.run_bind, hvz, Result.andThen_ok, run_und hA hu, hm, h1, Sem.run_pure]
      · simp at hr
    · simp at hr
  · rename_i z n e hz hu
    obtain ⟨vz, hvz, rz⟩ := run_zero (f := f) hA hz w
    split at hr
    · rename_i s hs
      split at hr
      · rename_i c hc
        simp at hr; subst hr
        obtain ⟨vc, h1, h2⟩ := fill_ok (place := fun i => some (i * s, s)) (fun i r h => h) ps z.cells c hc vps.toList vz.cells hps (VRel.cells rz)
        refine ⟨.agg vc, ?_, ⟨vc, rfl, h2⟩⟩
        simp only [Instr.build, Sem.run_bind, hvz, Result.andThen_ok, run_und hA hu, run_size hA hs, h1, Sem.run_pure]
      · simp at hr
    · simp at hr
  · simp at hr
end
end Go.Abs

namespace Go.Abs
section
variable {A : AProg} {P : Program} {L : List (PTree AObj)} {E : Keep} {f : Inj} {h : Heap} {nx : Pos} {w : World}

/-! ## slices -/
theorem natOf_ok {a : AVal} {n : Nat} {v : Value} (hn : natOf a = some n) (ha : VRel f a v) : ∃ k, v = .int k (.ofNat n) := by
  unfold natOf at hn
  split at hn
  · split at hn
    · simp at hn; subst hn; rw [VRel] at ha; exact ⟨_, ha⟩
    · simp at hn
  · simp at hn

/-- operands that may lack -/
def ORelV (f : Inj) : Option AVal → Option Value → Prop
  | none, v => v = none
  | some a, v => ∃ x, v = some x ∧ VRel f a x

theorem bound_ok {v : Value} {a : AVal} {top d n : Nat} {code : BoundsCode} (hb : boundA (some a) d top = some n) (ha : VRel f a v) {top' : Nat} (ht : top ≤ top') :
    (Instr.sliceBound v top' code).run P w = .ok n w ∧ n ≤ top := by
  simp only [boundA] at hb
  split at hb
  · rename_i m hm
    obtain ⟨k, rfl⟩ := natOf_ok hm ha
    rw [cond_eq] at hb
    split at hb
    · rename_i hle
      simp at hb; subst hb
      have hle : m ≤ top := Nat.le_of_ble_eq_true hle
      exact ⟨by simp [Instr.sliceBound, asIntOf]; omega, hle⟩
    · simp at hb
  · simp at hb

/-- the top of what a slice expression makes -/
def topOf : Option AVal → Nat → Nat → Nat
  | none, c, _ => c
  | some _, _, m => m

theorem bounds_ok {isSlice : Bool} {len cap cap' : Nat} (hc : cap ≤ cap') {lo hi mx : Option AVal} {vlo vhi vmx : Option Value} (hlo : ORelV f lo vlo) (hhi : ORelV f hi vhi)
    (hmx : ORelV f mx vmx) {l u m : Nat} (hb : boundsA len cap lo hi mx = some (l, u, m)) :
    (Instr.sliceBounds isSlice len cap' vlo vhi vmx).run P w = .ok (l, u, topOf mx cap' m) w ∧ l ≤ u ∧ (len ≤ cap ∨ hi.isSome = true → u ≤ m) ∧ m ≤ cap ∧ (mx = none → m = cap) := by
  unfold boundsA at hb
  split at hb
  · rename_i m' hm
    split at hb
    · rename_i u' hu
      split at hb
      · rename_i l' hl
        simp at hb; obtain ⟨rfl, rfl, rfl⟩ := hb
        -- low
        have hlow : ((vlo = none ∧ l' = 0) ∨ ∃ x, vlo = some x ∧ ∀ code, (Instr.sliceBound x u' code).run P w = .ok l' w) ∧ l' ≤ u' := by
          cases lo with
          | none => rw [ORelV] at hlo; subst hlo; simp [boundA] at hl; subst hl; exact ⟨.inl ⟨rfl, rfl⟩, Nat.zero_le _⟩
          | some a =>
            rw [ORelV] at hlo; obtain ⟨x, rfl, hx⟩ := hlo
            exact ⟨.inr ⟨x, rfl, fun code => (bound_ok hl hx (Nat.le_refl _)).1⟩, (bound_ok (P := P) (w := w) (code := .sliceB) hl hx (Nat.le_refl _)).2⟩
        obtain ⟨hlow, hlu⟩ := hlow
        cases mx with
        | none =>
          rw [ORelV] at hmx; subst hmx
          simp [boundA] at hm; subst hm
          cases hi with
          | none =>
            rw [ORelV] at hhi; subst hhi
            simp [boundA] at hu; subst hu
            refine ⟨?_, hlu, fun h => by simpa using h, Nat.le_refl _, fun _ => rfl⟩
            rcases hlow with ⟨rfl, rfl⟩ | ⟨x, rfl, hlow⟩
            · simp [Instr.sliceBounds, topOf]
            · simp [Instr.sliceBounds, topOf, hlow]
          | some a =>
            rw [ORelV] at hhi; obtain ⟨x, rfl, hx⟩ := hhi
            have h1 := fun code => bound_ok (P := P) (w := w) (code := code) hu hx hc
            refine ⟨?_, hlu, fun _ => (h1 .sliceB).2, Nat.le_refl _, fun _ => rfl⟩
            rcases hlow with ⟨rfl, rfl⟩ | ⟨z, rfl, hlow⟩
            · simp [Instr.sliceBounds, topOf, (h1 _).1]
            · simp [Instr.sliceBounds, topOf, hlow, (h1 _).1]
        | some b =>
          rw [ORelV] at hmx; obtain ⟨y, rfl, hy⟩ := hmx
          have h0 := fun code => bound_ok (P := P) (w := w) (code := code) hm hy hc
          cases hi with
          | none => simp at hu
          | some a =>
            rw [ORelV] at hhi; obtain ⟨x, rfl, hx⟩ := hhi
            have h1 := fun code => bound_ok (P := P) (w := w) (code := code) hu hx (Nat.le_refl _)
            refine ⟨?_, hlu, fun _ => (h1 .sliceB).2, (h0 .sliceB).2, fun h => by simp at h⟩
            rcases hlow with ⟨rfl, rfl⟩ | ⟨z, rfl, hlow⟩
            · simp [Instr.sliceBounds, topOf, (h0 _).1, (h1 _).1]
            · simp [Instr.sliceBounds, topOf, hlow, (h0 _).1, (h1 _).1]
      · simp at hb
    · simp at hb
  · simp at hb

theorem add_addr (b off n : Nat) : Addr.add ⟨b, off, none⟩ n = ⟨b, off + n, none⟩ := by
  unfold Addr.add; split
  · subst n; rfl
  · rfl

theorem sliceArr_ok (hA : A.Ok P) {n : Nat} {e : TypeId} {lo hi mx : Option AVal} {vlo vhi vmx : Option Value} (hlo : ORelV f lo vlo) (hhi : ORelV f hi vhi)
    (hmx : ORelV f mx vmx) {b : Pos} {off : Nat} {r : AVal} (hr : sliceA.arr A lo hi mx n e b off = some r) {p : Place} (hp : f b = some p) :
    ∃ v, (do let (l, u, m) ← Instr.sliceBounds false n n vlo vhi vmx
             let size ← sizeOf e
             pure (.slice (some (if m = l then (⟨p.block, p.base + off, none⟩ : Addr) else Addr.add ⟨p.block, p.base + off, none⟩ (l * size))) (u - l) (m - l)) : Sem Value).run P w = .ok v w ∧ VRel f r v := by
  unfold sliceA.arr at hr
  split at hr
  · rename_i s l u m hs hb
    simp at hr; subst hr
    obtain ⟨h1, h2, h3, h4, h5⟩ := bounds_ok (P := P) (w := w) (isSlice := false) (Nat.le_refl n) hlo hhi hmx hb
    have hm : topOf mx n m = m := by cases mx with | none => exact (h5 rfl).symm | some _ => rfl
    rw [hm] at h1
    have h3 := h3 (.inl (Nat.le_refl n))
    refine ⟨_, by simp [h1, run_size hA hs]; rfl, ?_⟩
    refine ⟨p, hp, ?_, by omega⟩
    by_cases hml : m = l
    · subst hml; simp
    · have : Nat.beq m l = false := by cases hb : Nat.beq m l with | false => rfl | true => exact absurd (Nat.eq_of_beq_eq_true hb) hml
      simp [hml, this, add_addr, Nat.add_assoc]
  · simp at hr

theorem sliceA_ok (hA : A.Ok P) {t : TypeId} {x r : AVal} {lo hi mx : Option AVal} {v : Value} {vlo vhi vmx : Option Value} (hx : VRel f x v) (hlo : ORelV f lo vlo) (hhi : ORelV f hi vhi)
    (hmx : ORelV f mx vmx) (hr : sliceA A t x lo hi mx = some r) : ∃ v', (Instr.sliceAt t v vlo vhi vmx).run P w = .ok v' w ∧ VRel f r v' := by
  unfold sliceA at hr
  split at hr
  · -- a text
    rename_i s hu
    obtain ⟨bs, rfl, rfl⟩ := hx
    split at hr
    · simp at hr
    · rw [ORelV] at hmx; subst hmx
      split at hr
      · rename_i l u m hb
        split at hr
        · rename_i q hq
          simp at hr; subst hr
          have hlen : (bytesOf bs).length = bs.size := by simp [bytesOf]
          rw [hlen] at hb
          obtain ⟨h1, h2, h3, h4, h5⟩ := bounds_ok (P := P) (w := w) (isSlice := false) (Nat.le_refl _) hlo hhi (mx := none) rfl hb
          refine ⟨.string (bs.extract l u), by simp [Instr.sliceAt, run_und hA hu, Instr.slice, h1], ⟨_, rfl, ?_⟩⟩
          obtain ⟨_, rfl⟩ := takeN_some _ _ _ hq
          rw [dropN_eq]
          simp only [bytesOf, ByteArray.data_extract, Array.toList_extract, List.extract_eq_take_drop, List.map_take, List.map_drop]
        · simp at hr
      · simp at hr
  · -- a nil slice
    rename_i e hu
    rw [VRel] at hx; subst hx
    split at hr
    · rename_i s q hs hb
      simp at hr; subst hr
      obtain ⟨l, u, m⟩ := q
      obtain ⟨h1, h2, h3, h4, h5⟩ := bounds_ok (P := P) (w := w) (isSlice := true) (Nat.le_refl 0) hlo hhi hmx hb
      have h3 := h3 (.inl (Nat.le_refl 0))
      have hm : topOf mx 0 m = 0 := by cases mx <;> simp [topOf]; omega
      rw [hm] at h1
      refine ⟨.slice none 0 0, ?_, rfl⟩
      have hl : l = 0 := by omega
      have hu0 : u = 0 := by omega
      subst hl hu0
      simp [Instr.sliceAt, run_und hA hu, Instr.slice, h1, run_size hA hs]
    · simp at hr
  · -- a slice of which all is known
    rename_i e b off len cap hu
    obtain ⟨p, hp, rfl, hlc⟩ := hx
    split at hr
    · rename_i s l u m hs hb
      simp at hr; subst hr
      obtain ⟨h1, h2, h3, h4, h5⟩ := bounds_ok (P := P) (w := w) (isSlice := true) (Nat.le_refl cap) hlo hhi hmx hb
      have hm : topOf mx cap m = m := by cases mx with | none => exact (h5 rfl).symm | some _ => rfl
      rw [hm] at h1
      have h3 := h3 (.inl hlc)
      refine ⟨_, by simp [Instr.sliceAt, run_und hA hu, Instr.slice, h1, run_size hA hs]; rfl, ?_⟩
      refine ⟨p, hp, ?_, by omega⟩
      by_cases hml : m = l
      · subst hml; simp
      · have : Nat.beq m l = false := by cases hb : Nat.beq m l with | false => rfl | true => exact absurd (Nat.eq_of_beq_eq_true hb) hml
        simp [hml, this, add_addr, Nat.add_assoc]
    · simp at hr
  · -- a slice to the end of its block
    rename_i e b off len es hu
    obtain ⟨p, hp, hes, hx⟩ := hx
    split at hr
    · rename_i s l u m hs hb
      rw [cond_eq] at hr
      split at hr
      · rename_i hse
        have hse : s = es := Nat.eq_of_beq_eq_true hse
        subst hse
        rcases hx with ⟨cap, rfl, hlc, hroom⟩ | ⟨rfl, hoff, a, rfl⟩
        · obtain ⟨h1, h2, h3, h4, h5⟩ := bounds_ok (P := P) (w := w) (isSlice := true) (cap' := cap) hlc hlo hhi hmx hb
          have h3 := h3 (.inl (Nat.le_refl _))
          cases mx with
          | none =>
            simp at hr; subst hr
            have hm := h5 rfl; subst hm
            simp only [topOf] at h1
            refine ⟨_, by simp [Instr.sliceAt, run_und hA hu, Instr.slice, h1, run_size hA hs]; rfl, ?_⟩
            refine ⟨p, hp, hes, ?_⟩
            by_cases hml : cap = l
            · right
              exact ⟨by omega, by subst hml; omega, ⟨p.block, p.base + off, none⟩, by subst hml; simp; omega⟩
            · left
              refine ⟨cap - l, by simp [hml, add_addr, Nat.add_assoc], by omega, ?_⟩
              have : l ≤ cap := by omega
              rw [← hroom, Nat.sub_mul]
              have := Nat.mul_le_mul_right s this
              omega
          | some q =>
            simp only [cond_eq] at hr
            split at hr
            · simp at hr
            · simp at hr; subst hr
              simp only [topOf] at h1
              refine ⟨_, by simp [Instr.sliceAt, run_und hA hu, Instr.slice, h1, run_size hA hs]; rfl, ?_⟩
              refine ⟨p, hp, ?_, by omega⟩
              by_cases hml : m = l
              · subst hml; simp
              · simp [hml, add_addr, Nat.add_assoc]
        · obtain ⟨h1, h2, h3, h4, h5⟩ := bounds_ok (P := P) (w := w) (isSlice := true) (cap' := 0) (Nat.le_refl 0) hlo hhi hmx hb
          have h3 := h3 (.inl (Nat.le_refl _))
          have hl : l = 0 := by omega
          have hu0 : u = 0 := by omega
          have hm0 : m = 0 := by omega
          subst hl hu0 hm0
          have hm : topOf mx 0 0 = 0 := by cases mx <;> rfl
          rw [hm] at h1
          cases mx with
          | none =>
            simp at hr; subst hr
            refine ⟨_, by simp [Instr.sliceAt, run_und hA hu, Instr.slice, h1, run_size hA hs]; rfl, ?_⟩
            exact ⟨p, hp, hes, .inr ⟨rfl, by simpa using hoff, a, rfl⟩⟩
          | some q => simp at hr
      · simp at hr
    · simp at hr
  · -- an array's address
    rename_i n e b off hu
    obtain ⟨p, hp, rfl⟩ := hx
    obtain ⟨v', hv', hrel⟩ := sliceArr_ok (P := P) (w := w) hA hlo hhi hmx hr hp
    refine ⟨v', ?_, hrel⟩
    rw [← hv']
    simp [Instr.sliceAt, run_und hA hu, Instr.sureAddr]
  · rename_i a b off hu
    obtain ⟨p, hp, rfl⟩ := hx
    split at hr
    · rename_i n e ha
      obtain ⟨v', hv', hrel⟩ := sliceArr_ok (P := P) (w := w) hA hlo hhi hmx hr hp
      refine ⟨v', ?_, hrel⟩
      rw [← hv']
      simp [Instr.sliceAt, run_und hA hu, Instr.slice, asAddr, run_und hA ha]
    · simp at hr
  · simp at hr
end
end Go.Abs

namespace Go.Abs
section
variable {A : AProg} {P : Program} {L : List (PTree AObj)} {E : Keep} {f : Inj} {h : Heap} {nx : Pos} {w : World}

/-! ## places of elements and fields -/
theorem indexAtA_ok (hA : A.Ok P) {t : TypeId} {x ix r : AVal} {v vi : Value} (hx : VRel f x v) (hi : VRel f ix vi) (hr : indexAtA A t x ix = some r) :
    ∃ v', (Instr.indexAt t v vi).run P w = .ok v' w ∧ VRel f r v' := by
  unfold indexAtA at hr
  split at hr
  · rename_i i n e b off hn hu
    obtain ⟨k, rfl⟩ := natOf_ok hn hi
    obtain ⟨p, hp, rfl⟩ := hx
    split at hr
    · rename_i s hs
      rw [cond_eq] at hr
      split at hr
      · rename_i hlt
        simp at hr; subst hr
        have hlt : i < n := by have h := hlt; simp [Nat.blt] at h; omega
        exact ⟨.pointer (some ⟨p.block, p.base + off + i * s, none⟩), by simp [Instr.indexAt, asIntOf, run_und hA hu, Instr.sureAddr, hlt, run_size hA hs, add_addr], ⟨p, hp, by rw [Nat.add_assoc]⟩⟩
      · simp at hr
    · simp at hr
  · rename_i i e b off len cap hn hu
    obtain ⟨k, rfl⟩ := natOf_ok hn hi
    obtain ⟨p, hp, rfl, _⟩ := hx
    split at hr
    · rename_i s hs
      rw [cond_eq] at hr
      split at hr
      · rename_i hlt
        simp at hr; subst hr
        have hlt : i < len := by have h := hlt; simp [Nat.blt] at h; omega
        exact ⟨.pointer (some ⟨p.block, p.base + off + i * s, none⟩), by simp [Instr.indexAt, asIntOf, run_und hA hu, hlt, run_size hA hs, add_addr], ⟨p, hp, by rw [Nat.add_assoc]⟩⟩
      · simp at hr
    · simp at hr
  · rename_i i e b off len es hn hu
    obtain ⟨k, rfl⟩ := natOf_ok hn hi
    obtain ⟨p, hp, _, hx⟩ := hx
    split at hr
    · rename_i s hs
      rw [cond_eq] at hr
      split at hr
      · rename_i hlt
        simp at hr; subst hr
        have hlt : i < len := by have h := hlt; simp [Nat.blt] at h; omega
        rcases hx with ⟨cap, rfl, _⟩ | ⟨rfl, _⟩
        · exact ⟨.pointer (some ⟨p.block, p.base + off + i * s, none⟩), by simp [Instr.indexAt, asIntOf, run_und hA hu, hlt, run_size hA hs, add_addr], ⟨p, hp, by rw [Nat.add_assoc]⟩⟩
        · omega
      · simp at hr
    · simp at hr
  · simp at hr

theorem bytesOf_get {s : ByteArray} {i b : Nat} (h : (bytesOf s)[i]? = some b) : ∃ c, s[i]? = some c ∧ c.toNat = b := by
  unfold bytesOf at h
  rw [List.getElem?_map] at h
  cases hc : s.data.toList[i]? with
  | none => rw [hc] at h; simp at h
  | some c =>
    rw [hc] at h; simp at h
    refine ⟨c, ?_, h⟩
    have hlt : i < s.data.size := by simpa using (List.getElem?_eq_some_iff.1 hc).1
    have hlt' : i < s.size := hlt
    rw [getElem?_pos s i hlt']
    have := (List.getElem?_eq_some_iff.1 hc).2
    simp at this
    rw [← this]; rfl

theorem indexA_ok (hA : A.Ok P) {t : TypeId} {x ix r : AVal} {v vi : Value} (hx : VRel f x v) (hi : VRel f ix vi) (hr : indexA A t x ix = some r) :
    ∃ v', (Instr.index t v vi).run P w = .ok v' w ∧ VRel f r v' := by
  unfold indexA at hr
  split at hr
  · rename_i i n e cs hn hu
    obtain ⟨k, rfl⟩ := natOf_ok hn hi
    obtain ⟨a, rfl, hx⟩ := hx
    split at hr
    · rename_i s hs
      rw [cond_eq] at hr
      split at hr
      · rename_i hlt
        have hlt : i < n := by have h := hlt; simp [Nat.blt] at h; omega
        obtain ⟨v', hv', hrel⟩ := run_part hA hr hx w
        exact ⟨v', by simp [Instr.index, asIntOf, run_und hA hu, hlt, run_size hA hs, hv'], hrel⟩
      · simp at hr
    · simp at hr
  · rename_i i s hn hu
    obtain ⟨k, rfl⟩ := natOf_ok hn hi
    obtain ⟨bs, rfl, rfl⟩ := hx
    split at hr
    · rename_i b hb
      simp at hr; subst hr
      rw [nth_eq] at hb
      obtain ⟨c, hc, rfl⟩ := bytesOf_get hb
      exact ⟨.int .u8 c.toNat, by simp [Instr.index, asIntOf, run_und hA hu, hc], rfl⟩
    · simp at hr
  · simp at hr

theorem fieldA_ok (hA : A.Ok P) {t : TypeId} {x r : AVal} {fi : Nat} {v : Value} (hx : VRel f x v) (hr : fieldA A t x fi = some r) :
    ∃ v', (Instr.field t v fi).run P w = .ok v' w ∧ VRel f r v' := by
  unfold fieldA at hr
  split at hr
  · rename_i fs cs hf
    obtain ⟨a, rfl, hx⟩ := hx
    obtain ⟨fa, hu, rfl⟩ := run_fields hA hf
    split at hr
    · rename_i fl hfl
      rw [nth_eq] at hfl
      have hfl' : fa[fi]? = some fl := by simpa using hfl
      obtain ⟨v', hv', hrel⟩ := run_part hA hr hx w
      exact ⟨v', by simp [Instr.field, run_und hA hu, hfl', asAgg, hv'], hrel⟩
    · simp at hr
  · simp at hr

theorem fieldAtA_ok (hA : A.Ok P) {t : TypeId} {x r : AVal} {fi : Nat} {v : Value} (hx : VRel f x v) (hr : fieldAtA A t x fi = some r) :
    ∃ v', (Instr.fieldAt t v fi).run P w = .ok v' w ∧ VRel f r v' := by
  unfold fieldAtA at hr
  split at hr
  · rename_i fs b off hf
    obtain ⟨p, hp, rfl⟩ := hx
    obtain ⟨fa, hu, rfl⟩ := run_fields hA hf
    split at hr
    · rename_i fl hfl
      rw [nth_eq] at hfl
      have hfl' : fa[fi]? = some fl := by simpa using hfl
      split at hr
      · rename_i n hs
        simp at hr; subst hr
        exact ⟨.pointer (some ⟨p.block, p.base + off + fl.offset, none⟩), by simp [Instr.fieldAt, run_und hA hu, hfl', Instr.sureAddr, fieldPlace, run_size hA hs, add_addr], ⟨p, hp, by rw [Nat.add_assoc]⟩⟩
      · simp at hr
    · simp at hr
  · simp at hr

/-! ## maps -/
mutual
theorem same_ok : ∀ (a b : AVal) (va vb : Value), same a b = true → VRel f a va → VRel f b vb → va = vb
  | .bool x, b, va, vb, h, ha, hb => by
    cases b <;> simp [same] at h
    rw [VRel] at ha hb; subst ha hb
    rw [beqBool_eq] at h; simp at h; rw [h]
  | .int j x, b, va, vb, h, ha, hb => by
    cases b <;> simp [same, cond_eq] at h
    rw [VRel] at ha hb; subst ha hb
    rw [(beqKind_iff _ _).1 h.1, (beqInt_iff _ _).1 h.2]
  | .str x, b, va, vb, h, ha, hb => by
    cases b <;> simp [same] at h
    obtain ⟨s, rfl, rfl⟩ := ha
    obtain ⟨t, rfl, rfl⟩ := hb
    rw [beqStr_iff] at h
    rw [bytesOf_inj h]
  | .agg x, b, va, vb, h, ha, hb => by
    cases b with
    | agg y =>
      simp only [same] at h
      obtain ⟨s, rfl, ha⟩ := ha
      obtain ⟨t, rfl, hb⟩ := hb
      have := sames_ok x y s.toList t.toList h ha hb
      rw [Array.toList_inj.1 this]
    | _ => simp [same] at h
  | .ptr _ _, b, _, _, h, _, _ => by simp [same] at h
  | .nilPtr, b, _, _, h, _, _ => by simp [same] at h
  | .slice _ _ _ _, b, _, _, h, _, _ => by simp [same] at h
  | .sliceO _ _ _ _, b, _, _, h, _, _ => by simp [same] at h
  | .nilSlice, b, _, _, h, _, _ => by simp [same] at h
  | .map _, b, _, _, h, _, _ => by simp [same] at h
  | .nilMap, b, _, _, h, _, _ => by simp [same] at h
  | .func _ _ _, b, _, _, h, _, _ => by simp [same] at h
  | .yield _, b, _, _, h, _, _ => by simp [same] at h
  | .nilFunc, b, _, _, h, _, _ => by simp [same] at h
  | .iface _ _, b, _, _, h, _, _ => by simp [same] at h
  | .nilIface, b, _, _, h, _, _ => by simp [same] at h
  | .tuple _, b, _, _, h, _, _ => by simp [same] at h
theorem sames_ok : ∀ (a b : List AVal) (va vb : List Value), sames a b = true → VsRel f a va → VsRel f b vb → va = vb
  | [], b, va, vb, h, ha, hb => by
    cases b <;> simp [sames] at h
    rw [VsRel] at ha hb; subst ha hb; rfl
  | x :: a, b, va, vb, h, ha, hb => by
    cases b with
    | nil => simp [sames] at h
    | cons y b =>
      simp only [sames, cond_eq] at h
      split at h
      · rename_i hxy
        rw [VsRel] at ha hb
        obtain ⟨u, va', rfl, hu, ha⟩ := ha
        obtain ⟨v, vb', rfl, hv, hb⟩ := hb
        rw [same_ok x y u v hxy hu hv, sames_ok a b va' vb' h ha hb]
      · simp at h
end

theorem keyType_ok (hA : A.Ok P) {t k e : TypeId} (h : keyType A t = some (k, e)) : und A t = some (.map k e) := by
  unfold keyType at h
  split at h
  · rename_i hu; simp at h; obtain ⟨rfl, rfl⟩ := h; exact hu
  · simp at h

/-- the fields of a key, looked at one by one -/
def ckFields (empty : Bool) (d : Nat) (cs : Array Value) : List Field → Sem Unit
  | [] => pure ()
  | f :: fs => do
    if f.name ≠ "_" then Instr.checkKey empty d f.type (← part f.type cs f.offset)
    ckFields empty d cs fs

theorem run_checkKey_struct (hA : A.Ok P) {t : TypeId} {fs : Array Field} (hu : und A t = some (.struct fs)) (empty : Bool) (d : Nat) (cs : Array Value) :
    (Instr.checkKey empty (d + 1) t (.agg cs)).run P w = (ckFields empty d cs fs.toList).run P w := by
  simp only [Instr.checkKey, Sem.run_bind, run_und hA hu, Result.andThen_ok]
  rw [← Array.forIn_toList]
  generalize fs.toList = l
  clear hu
  induction l generalizing w with
  | nil => simp [ckFields]
  | cons f l ih =>
    simp only [List.forIn_cons, ckFields, Sem.run_bind, Sem.run_ite]
    split
    · generalize (part f.type cs f.offset).run P w = r1
      cases r1 with
      | ok a w1 =>
        simp only [Result.andThen_ok]
        generalize (Instr.checkKey empty d f.type a).run P w1 = r2
        cases r2 with
        | ok b w2 => simp only [Result.andThen_ok, Sem.run_pure]; exact ih
        | halt x w2 => simp [Result.andThen]
      | halt x w1 => simp [Result.andThen]
    · simp only [Sem.run_pure, Result.andThen_ok]; exact ih

theorem keyFine_ok (hA : A.Ok P) (empty : Bool) : ∀ (n : Nat) (t : TypeId) (a : AVal), keyFine A n t a = true → ∀ v, VRel f a v → ∀ d, n ≤ d → (Instr.checkKey empty d t v).run P w = .ok () w := by
  intro n
  induction n with
  | zero => intro t a h; simp [keyFine] at h
  | succ n ih =>
    intro t a hk v hv d hd
    obtain ⟨d, rfl⟩ : ∃ m, d = m + 1 := ⟨d - 1, by omega⟩
    simp only [keyFine] at hk
    split at hk
    · simp at hk
    · simp at hk
    · rename_i fs hu
      split at hk
      · rename_i cs
        obtain ⟨va, rfl, hv⟩ := hv
        rw [run_checkKey_struct hA hu]
        generalize fs.toList = l at hk ⊢
        clear hu
        induction l with
        | nil => simp [ckFields]
        | cons f l ih2 =>
          simp only [keyFine.kFs] at hk
          split at hk
          · rename_i x hx
            rw [cond_eq] at hk
            split at hk
            · rename_i hx2
              obtain ⟨y, hy, ry⟩ := run_part hA hx hv w
              have := ih _ _ hx2 y ry d (by omega)
              simp only [ckFields]
              split
              · simp [hy, this, ih2 hk]
              · simp [ih2 hk]
            · simp at hk
          · simp at hk
      · simp at hk
    · rename_i dd h1 h2 h3 hu
      simp only [Instr.checkKey, Sem.run_bind, run_und hA hu, Result.andThen_ok]
      cases dd <;> first | rfl | (exfalso; first | exact h1 _ rfl | exact h2 _ _ rfl | exact h3 _ rfl)
    · simp at hk

theorem sameNow_ok (hA : A.Ok P) {t : TypeId} {d : TypeDesc} (hu : und A t = some d) {a b : Value} {r : Bool} (h : Instr.sameNow d a b = some r) (n : Nat) :
    (Op.equalIn (n + 1) t a b).run P w = .ok r w := by
  unfold Instr.sameNow at h
  split at h
  · split at h
    · rename_i hk; subst hk; simp at h; subst h; simp [Op.equalIn, run_und hA hu]
    · simp at h
  · simp at h; subst h; simp [Op.equalIn, run_und hA hu]
  · simp at h; subst h; simp [Op.equalIn, run_und hA hu]
  · simp at h

/-- what is found among entries -/
def FRel (f : Inj) (es : List AEntry) (ces : List MapEntry) (i0 : Nat) : Option (Nat × AEntry) → Option (Nat × Value) → Prop
  | none, r => r = none
  | some (i, e), r => ∃ j ce, i = i0 + j ∧ es[j]? = some e ∧ ces[j]? = some ce ∧ r = some (i, ce.val) ∧ VRel f e.v ce.val ∧ VRel f e.k ce.key ∧ ce.born = e.born

theorem findA_ok (hA : A.Ok P) (hH : HRel E f (hget L h) nx w) {t : TypeId} {k : AVal} {vk : Value} (hk : VRel f k vk) : ∀ (es : List AEntry) (ces : List MapEntry) (i : Nat) (r : Option (Nat × AEntry)),
    EsRel f es ces → findA A L h t k es i = some r →
      ∃ r', (Instr.findAsking t vk ces i).run P w = .ok r' w ∧ FRel f es ces i r r' ∧ (∀ d q, und A t = some d → Instr.findNow d vk ces i = some q → q = r') ∧
        (∀ i' e, r = some (i', e) → ∃ vk', VRel f e.k vk' ∧ vk' = vk) := by
  intro es
  induction es with
  | nil =>
    intro ces i r he hr
    rw [EsRel] at he; subst he
    simp [findA] at hr; subst hr
    exact ⟨none, by simp [Instr.findAsking], rfl, fun d q _ h => by simp [Instr.findNow] at h; exact h.symm, fun _ _ h => by simp at h⟩
  | cons e es ih =>
    intro ces i r he hr
    rw [EsRel] at he
    obtain ⟨ce, ces', rfl, ⟨hke, hve, hbe⟩, he⟩ := he
    simp only [findA] at hr
    split at hr
    · rename_i hq
      have heq := equalIn_ok (w := w) hA hH 40 t _ _ _ hq vk ce.key hk hke 10000 (by omega)
      rw [cond_eq] at hr
      split at hr
      · rename_i hsm
        simp at hr; subst hr
        refine ⟨some (i, ce.val), by simp [Instr.findAsking, Op.equal, Op.maxDepth, heq], ?_, ?_, ?_⟩
        · exact ⟨0, ce, by simp, rfl, rfl, rfl, hve, hke, hbe⟩
        · intro d q hu hn
          simp only [Instr.findNow] at hn
          split at hn
          · simp at hn; exact hn.symm
          · rename_i hf
            have := sameNow_ok (P := P) (w := w) hA hu hf 9999
            rw [heq] at this; simp at this
          · simp at hn
        · intro i' e' he'; simp at he'; obtain ⟨rfl, rfl⟩ := he'
          exact ⟨ce.key, hke, same_ok _ _ _ _ hsm hke hk⟩
      · simp at hr
    · rename_i hq
      have heq := equalIn_ok (w := w) hA hH 40 t _ _ _ hq vk ce.key hk hke 10000 (by omega)
      obtain ⟨r', h1, h2, h3, h4⟩ := ih ces' (i + 1) r he hr
      refine ⟨r', by simp [Instr.findAsking, Op.equal, Op.maxDepth, heq, h1], ?_, ?_, h4⟩
      · cases r with
        | none => exact h2
        | some q =>
          obtain ⟨i', e'⟩ := q
          obtain ⟨j, ce', e1, e2, e3, e4⟩ := h2
          exact ⟨j + 1, ce', by omega, by simpa using e2, by simpa using e3, e4⟩
      · intro d q hu hn
        simp only [Instr.findNow] at hn
        split at hn
        · rename_i hf
          have := sameNow_ok (P := P) (w := w) hA hu hf 9999
          rw [heq] at this; simp at this
        · exact h3 d q hu hn
        · simp at hn
    · simp at hr

theorem keyFine_und {n : Nat} {t : TypeId} {k : AVal} (hfine : keyFine A n t k = true) : ∃ d, und A t = some d := by
  cases n with
  | zero => simp [keyFine] at hfine
  | succ n =>
    simp only [keyFine] at hfine
    cases hu : und A t with
    | none => rw [hu] at hfine; simp at hfine
    | some d => exact ⟨d, rfl⟩

theorem findKey_ok (hA : A.Ok P) (hH : HRel E f (hget L h) nx w) {t : TypeId} {k : AVal} {vk : Value} (hk : VRel f k vk) {n : Nat} (hfine : keyFine A n t k = true) {es : List AEntry} {ces : List MapEntry} {r : Option (Nat × AEntry)}
    (he : EsRel f es ces) (hr : findA A L h t k es 0 = some r) :
      ∃ r', (Instr.findKey t vk ces).run P w = .ok r' w ∧ FRel f es ces 0 r r' ∧ (∀ i' e, r = some (i', e) → ∃ vk', VRel f e.k vk' ∧ vk' = vk) := by
  obtain ⟨r', h1, h2, h3, h4⟩ := findA_ok (P := P) hA hH hk es ces 0 r he hr
  obtain ⟨d, hu⟩ := keyFine_und hfine
  refine ⟨r', ?_, h2, h4⟩
  simp only [Instr.findKey, Sem.run_bind, run_und hA hu, Result.andThen_ok]
  cases hn : Instr.findNow d vk ces 0 with
  | none => simpa using h1
  | some q => rw [h3 d q hu hn]; simp

theorem map_of (hH : HRel E f (hget L h) nx w) {b : Pos} {es : List AEntry} {c : Nat} (hm : mapAt L h b = some (es, c)) :
    ∃ p ces, hget L h b = some (.map es c) ∧ f b = some p ∧ w.heap[p.block]? = some (.map ces c) ∧ EsRel f es ces.toList ∧ (∀ e ∈ es, e.born < c) := by
  unfold mapAt at hm
  split at hm
  · rename_i es' c' hg
    simp at hm; obtain ⟨rfl, rfl⟩ := hm
    obtain ⟨p, ob, hp, hw, hr⟩ := hH.objs _ _ hg rfl
    obtain ⟨ces, rfl, h1, h2⟩ := hr
    exact ⟨p, ces, hg, hp, hw, h1, h2⟩
  · simp at hm

theorem run_getObj_map {b c : Nat} {ces : Array MapEntry} (hw : w.heap[b]? = some (.map ces c)) : (getObj b).run P w = .ok (.map ces c) w := by
  simp [getObj, Sem.run, hw]

theorem lookupA_ok (hA : A.Ok P) (hH : HRel E f (hget L h) nx w) {t : TypeId} {m k r : AVal} {vm vk : Value} {ok : Bool} (hm : VRel f m vm) (hk : VRel f k vk) (hr : lookupA A L h t m k ok = some r) :
    ∃ v', (Instr.lookup t vm vk ok).run P w = .ok v' w ∧ VRel f r v' := by
  unfold lookupA at hr
  split at hr
  · simp at hr
  · rename_i kt et hkt
    have hu := keyType_ok hA hkt
    rw [cond_eq] at hr
    split at hr
    · rename_i hfine
      have hmiss : ∀ {r}, lookupA.missing A ok et = some r → ∃ v, (zeroValue et).run P w = .ok v w ∧ VRel f r (if ok then .tuple #[v, .bool false] else v) := by
        intro r hr
        unfold lookupA.missing at hr
        split at hr
        · rename_i z hz
          obtain ⟨v, hv, rv⟩ := run_zero (f := f) hA hz w
          refine ⟨v, hv, ?_⟩
          simp at hr; subst hr
          cases ok
          · exact rv
          · exact ⟨_, rfl, ⟨v, _, rfl, rv, ⟨_, _, rfl, rfl, rfl⟩⟩⟩
        · simp at hr
      split at hr
      · rw [VRel] at hm; subst hm
        obtain ⟨v, hv, rv⟩ := hmiss hr
        refine ⟨_, ?_, rv⟩
        have hck := keyFine_ok (w := w) (P := P) hA true 40 kt k hfine vk hk 10000 (by omega)
        obtain ⟨d, hd⟩ := keyFine_und hfine
        simp [Instr.lookup, run_und hA hu, hck, Instr.findKey, run_und hA hd, Instr.findNow, hv]
      · rename_i b
        obtain ⟨p', hp', rfl⟩ := hm
        split at hr
        · rename_i es c hma
          obtain ⟨p, ces, hg, hp, hw, hes, hborn⟩ := map_of hH hma
          rw [hp] at hp'; cases hp'
          have hck := fun e => keyFine_ok (w := w) (P := P) hA e 40 kt k hfine vk hk 10000 (by omega)
          split at hr
          · rename_i i e hfd
            obtain ⟨r', h1, h2, h3⟩ := findKey_ok (P := P) hA hH hk hfine hes hfd
            obtain ⟨j, ce, _, _, _, rfl, hv, _⟩ := h2
            simp at hr; subst hr
            refine ⟨if ok then .tuple #[ce.val, .bool true] else ce.val, by simp [Instr.lookup, run_und hA hu, run_getObj_map hw, hck, h1], ?_⟩
            cases ok
            · exact hv
            · exact ⟨_, rfl, ⟨ce.val, _, rfl, hv, ⟨_, _, rfl, rfl, rfl⟩⟩⟩
          · rename_i hfd
            obtain ⟨r', h1, h2, h3⟩ := findKey_ok (P := P) hA hH hk hfine hes hfd
            rw [FRel] at h2; subst h2
            obtain ⟨v, hv, rv⟩ := hmiss hr
            exact ⟨_, by simp [Instr.lookup, run_und hA hu, run_getObj_map hw, hck, h1, hv], rv⟩
          · simp at hr
        · simp at hr
      · simp at hr
    · simp at hr
end
end Go.Abs

namespace Go.Abs
section
variable {A : AProg} {P : Program} {L : List (PTree AObj)} {E : Keep} {f : Inj} {h : Heap} {nx : Pos} {w : World}

/-- what operands stand for -/
def OpEnv (f : Inj) (e : Env) (ρ : Operand → Value) (l : List Operand) : Prop := ∀ x ∈ l, ∀ v, aeval e x = some v → VRel f v (ρ x)

theorem evalAll_ok {e : Env} {ρ : Operand → Value} : ∀ {l : List Operand} {vs : List AVal}, OpEnv f e ρ l → evalAll e l = some vs → VsRel f vs (l.map ρ) := by
  intro l
  induction l with
  | nil => intro vs _ h; simp [evalAll] at h; subst h; rfl
  | cons x l ih =>
    intro vs henv h
    simp only [evalAll] at h
    split at h
    · rename_i v r hv hr
      simp at h; subst h
      exact ⟨_, _, rfl, henv x (by simp) v hv, ih (fun y hy => henv y (by simp [hy])) hr⟩
    · simp at h
theorem evalParts_ok {e : Env} {ρ : Operand → Value} : ∀ {l : List (Nat × Operand)} {vs : List (Nat × AVal)}, OpEnv f e ρ (l.map (·.2)) → evalParts e l = some vs → PsRel f vs (l.map fun x => (x.1, ρ x.2)) := by
  intro l
  induction l with
  | nil => intro vs _ h; simp [evalParts] at h; subst h; rfl
  | cons x l ih =>
    intro vs henv h
    obtain ⟨i, x⟩ := x
    simp only [evalParts] at h
    split at h
    · rename_i v r hv hr
      simp at h; subst h
      exact ⟨_, _, rfl, henv x (by simp) v hv, ih (fun y hy => henv y (by simp at hy ⊢; exact .inr hy)) hr⟩
    · simp at h
theorem optA_ok {e : Env} {ρ : Operand → Value} {x : Option Operand} {v : Option AVal} (henv : OpEnv f e ρ x.toList) (h : optA e x = some v) : ORelV f v (x.map ρ) := by
  unfold optA at h
  split at h
  · simp at h; subst h; rfl
  · rename_i y
    split at h
    · rename_i u hu; simp at h; subst h; exact ⟨_, rfl, henv y (by simp) u hu⟩
    · simp at h

theorem qLen_ok (hA : A.Ok P) (hH : HRel E f (hget L h) nx w) {ts : Array TypeId} {t : TypeId} {x r : AVal} {v : Value} (ht : ts[0]? = some t) (hx : VRel f x v) (hl : lenType A t x = true) (hr : qLen L h x = some r) (ty : TypeId) :
    ∃ v', (Builtin.len_ ts ty #[v]).run P w = .ok v' w ∧ VRel f r v' := by
  unfold lenType at hl
  split at hl
  · rename_i s hu
    obtain ⟨b, rfl, rfl⟩ := hx
    simp [qLen] at hr; subst hr
    exact ⟨.int .i64 b.size, by simp [Builtin.len_, ht, run_und hA hu, goInt], by simp [VRel, bytesOf]⟩
  · rename_i e hu
    rw [VRel] at hx; subst hx
    simp [qLen] at hr; subst hr
    exact ⟨.int .i64 0, by simp [Builtin.len_, ht, run_und hA hu, goInt], rfl⟩
  · rename_i e b off n c hu
    obtain ⟨p, hp, rfl, _⟩ := hx
    simp [qLen] at hr; subst hr
    exact ⟨.int .i64 n, by simp [Builtin.len_, ht, run_und hA hu, goInt], rfl⟩
  · rename_i e b off n es hu
    obtain ⟨p, hp, _, ⟨c, rfl, _⟩ | ⟨rfl, _, a, rfl⟩⟩ := hx
    · simp [qLen] at hr; subst hr
      exact ⟨.int .i64 n, by simp [Builtin.len_, ht, run_und hA hu, goInt], rfl⟩
    · simp [qLen] at hr; subst hr
      exact ⟨.int .i64 0, by simp [Builtin.len_, ht, run_und hA hu, goInt], rfl⟩
  · rename_i k e hu
    rw [VRel] at hx; subst hx
    simp [qLen] at hr; subst hr
    exact ⟨.int .i64 0, by simp [Builtin.len_, ht, run_und hA hu, goInt], rfl⟩
  · rename_i k e b hu
    obtain ⟨p', hp', rfl⟩ := hx
    simp only [qLen] at hr
    split at hr
    · rename_i es c hm
      obtain ⟨p, ces, hg, hp, hw, hes, _⟩ := map_of hH hm
      rw [hp] at hp'; cases hp'
      simp at hr; subst hr
      have : es.length = ces.size := by
        have : ∀ (es : List AEntry) (l : List MapEntry), EsRel f es l → es.length = l.length := by
          intro es
          induction es with
          | nil => intro l h; rw [EsRel] at h; subst h; rfl
          | cons a es ih => intro l h; obtain ⟨x, l', rfl, _, h⟩ := h; simp [ih l' h]
        simpa using this es _ hes
      exact ⟨.int .i64 ces.size, by simp [Builtin.len_, ht, run_und hA hu, run_getObj_map hw, goInt], by simp [VRel, this]⟩
    · simp at hr
  · simp at hl

theorem toList_head {α : Type} {a : Array α} {x : α} {l : List α} (h : a.toList = x :: l) : a[0]? = some x := by
  have : a.toList[0]? = some x := by rw [h]; rfl
  simpa using this

theorem qBuiltin_ok (hA : A.Ok P) (hH : HRel E f (hget L h) nx w) {e : Env} {ρ : Operand → Value} {b : Builtin} {ts : Array TypeId} {args : List Operand} {r : AVal} (henv : OpEnv f e ρ args)
    (hr : qBuiltin A L e h b ts.toList args = some r) (ty : TypeId) (cs : Array Bool) : ∃ v, (builtin b ts ty cs (args.map ρ).toArray).run P w = .ok (.value v) w ∧ VRel f r v := by
  unfold qBuiltin at hr
  split at hr
  · rename_i t rest x hts
    split at hr
    · rename_i a ha
      rw [cond_eq] at hr
      split at hr
      · rename_i hl
        obtain ⟨v, hv, rv⟩ := qLen_ok hA hH (toList_head hts) (henv x (by simp) a ha) hl hr ty
        exact ⟨v, by simp [builtin, hv], rv⟩
      · simp at hr
    · simp at hr
  · rename_i t rest x hts
    split at hr
    · rename_i el hu ha
      have := henv x (by simp) _ ha
      rw [VRel] at this
      simp at hr; subst hr
      exact ⟨.int .i64 0, by simp [builtin, Builtin.cap_, toList_head hts, run_und hA hu, this, goInt], rfl⟩
    · rename_i el b off n c hu ha
      have := henv x (by simp) _ ha
      obtain ⟨p, hp, he, _⟩ := this
      simp at hr; subst hr
      exact ⟨.int .i64 c, by simp [builtin, Builtin.cap_, toList_head hts, run_und hA hu, he, goInt], rfl⟩
    · simp at hr
  · rename_i x y
    split at hr
    · rename_i k a j b hx hy
      have h1 := henv x (by simp) _ hx
      have h2 := henv y (by simp) _ hy
      rw [VRel] at h1 h2
      simp at hr; subst hr
      refine ⟨.int k (if b ≤ a then a else b), ?_, by simp [VRel, leInt_eq, cond_eq]⟩
      simp only [builtin, Builtin.max_, List.map_cons, List.map_nil, h1, h2, List.foldlM_cons, List.foldlM_nil, Builtin.max2, Sem.run_bind, Sem.run_pure, Result.andThen_ok, Result.ok.injEq, Next.value.injEq, Value.int.injEq, true_and, and_true]
      split <;> split <;> omega
    · simp at hr
  · rename_i x y
    split at hr
    · rename_i k a j b hx hy
      have h1 := henv x (by simp) _ hx
      have h2 := henv y (by simp) _ hy
      rw [VRel] at h1 h2
      simp at hr; subst hr
      refine ⟨.int k (if a ≤ b then a else b), ?_, by simp [VRel, leInt_eq, cond_eq]⟩
      simp only [builtin, Builtin.min_, List.map_cons, List.map_nil, h1, h2, List.foldlM_cons, List.foldlM_nil, Builtin.min2, Sem.run_bind, Sem.run_pure, Result.andThen_ok, Result.ok.injEq, Next.value.injEq, Value.int.injEq, true_and, and_true]
      split <;> split <;> omega
    · simp at hr
  · simp at hr

set_option maxHeartbeats 1000000 in
/-- an operation that only reads -/
theorem quiet_ok (hA : A.Ok P) (hH : HRel E f (hget L h) nx w) {e : Env} {ρ : Operand → Value} {o : Oper} (henv : OpEnv f e ρ o.op.operands.toList) {r : AVal}
    (hr : quiet A L e h o.op = some r) : ∃ v, (execOp ρ o).run P w = .ok (.value v) w ∧ VRel f r v := by
  obtain ⟨dst, op, type, pos, after, guard⟩ := o
  simp only at henv hr
  unfold quiet at hr
  split at hr
  · rename_i x; exact ⟨ρ x, by simp [execOp], henv x (by simp [Op.operands]) r hr⟩
  · rename_i x; exact ⟨ρ x, by simp [execOp], henv x (by simp [Op.operands]) r hr⟩
  · rename_i c a b
    unfold qPick at hr
    split at hr
    · rename_i t ht
      have h1 := henv c (by simp [Op.operands]) _ ht
      rw [VRel] at h1
      cases t
      · exact ⟨ρ b, by simp [execOp, h1, asBool], henv b (by simp [Op.operands]) r (by simpa using hr)⟩
      · exact ⟨ρ a, by simp [execOp, h1, asBool], henv a (by simp [Op.operands]) r (by simpa using hr)⟩
    · simp at hr
  · rename_i t ps
    unfold qBuild at hr
    split at hr
    · rename_i l hl
      have h1 := evalParts_ok (f := f) (ρ := ρ) (fun x hx => henv x (by simpa [Op.operands] using hx)) hl
      obtain ⟨v, hv, rv⟩ := buildA_ok (P := P) (w := w) hA hr (ps.map fun (i, x) => (i, ρ x)) (by simpa using h1)
      exact ⟨v, by simp [execOp, hv], rv⟩
    · simp at hr
  · rename_i t a
    unfold qLoad at hr
    split at hr
    · rename_i b off ha
      obtain ⟨p', hp', h1⟩ := henv a (by simp [Op.operands]) _ ha
      obtain ⟨p, v, hp, hv, rv⟩ := run_load_var hA hH hr
      rw [hp] at hp'; cases hp'
      exact ⟨v, by simp [execOp, Instr.loadAt, h1, Instr.sureAddr, hv], rv⟩
    · simp at hr
  · rename_i x
    unfold qNilCheck at hr
    split at hr
    · rename_i b off ha
      have h1 := henv x (by simp [Op.operands]) _ ha
      obtain ⟨p, hp, h2⟩ := h1
      simp at hr; subst hr
      exact ⟨_, by simp [execOp, h2], ⟨p, hp, rfl⟩⟩
    · simp at hr
  · rename_i op t x y yt
    unfold qBin at hr
    split at hr
    · rename_i a b ha hb
      obtain ⟨v, hv, rv⟩ := binA_ok hA hH (henv x (by simp [Op.operands]) _ ha) (henv y (by simp [Op.operands]) _ hb) hr
      refine ⟨v, ?_, rv⟩
      simp only [execOp, Sem.run_bind]
      simp only [Sem.run_bind] at hv
      rw [hv]; simp
    · simp at hr
  · rename_i op t x
    unfold qUn at hr
    split at hr
    · rename_i a ha
      obtain ⟨v, hv, rv⟩ := unA_ok (P := P) (w := w) (henv x (by simp [Op.operands]) _ ha) hr
      exact ⟨v, by simp [execOp, hv], rv⟩
    · simp at hr
  · rename_i s d x
    unfold qConv at hr
    split at hr
    · rename_i a ha
      obtain ⟨v, hv, rv⟩ := convA_ok hA hH (henv x (by simp [Op.operands]) _ ha) hr
      exact ⟨v, by simp [execOp, hv], rv⟩
    · simp at hr
  · rename_i t x
    unfold qIface at hr
    split at hr
    · simp at hr
    · rename_i a d hne ha hu
      simp at hr; subst hr
      refine ⟨.iface t (ρ x), ?_, ⟨_, rfl, henv x (by simp [Op.operands]) _ ha⟩⟩
      simp only [execOp, Instr.makeInterface, Sem.run_bind, run_und hA hu, Result.andThen_ok]
      cases d <;> first | (exact absurd rfl (hne _)) | simp
    · simp at hr
  · rename_i fn first captured
    unfold qFunc at hr
    split at hr
    · rename_i g
      split at hr
      · rename_i a b ha hb
        simp at hr; subst hr
        have h1 := evalAll_ok (f := f) (ρ := ρ) (fun x hx => henv x (by simp [Op.operands]; exact .inl (by simpa using hx))) ha
        have h2 := evalAll_ok (f := f) (ρ := ρ) (fun x hx => henv x (by simp [Op.operands]; exact .inr (by simpa using hx))) hb
        exact ⟨.func (.func g) (first.map ρ) (captured.map ρ), by simp [execOp, Instr.makeFunc], ⟨_, _, rfl, by simpa using h1, by simpa using h2⟩⟩
      · simp at hr
    · simp at hr
  · rename_i t x lo hi mx
    unfold qSlice at hr
    split at hr
    · rename_i a ha
      split at hr
      · rename_i l u m hl hu hm
        have g : ∀ y ∈ lo.toList ++ hi.toList ++ mx.toList, y ∈ (Op.slice t x lo hi mx).operands.toList := by
          intro y hy; simp [Op.operands] at hy ⊢; simp_all
        obtain ⟨v, hv, rv⟩ := sliceA_ok (P := P) (w := w) hA (henv x (by simp [Op.operands]) _ ha)
          (optA_ok (fun y hy => henv y (g y (by simp_all))) hl) (optA_ok (fun y hy => henv y (g y (by simp_all))) hu) (optA_ok (fun y hy => henv y (g y (by simp_all))) hm) hr
        exact ⟨v, by simp [execOp, hv], rv⟩
      · simp at hr
    · simp at hr
  · rename_i t x fi
    unfold qFieldAddr at hr
    split at hr
    · rename_i a ha
      obtain ⟨v, hv, rv⟩ := fieldAtA_ok (P := P) (w := w) hA (henv x (by simp [Op.operands]) _ ha) hr
      exact ⟨v, by simp [execOp, hv], rv⟩
    · simp at hr
  · rename_i t x fi
    unfold qField at hr
    split at hr
    · rename_i a ha
      obtain ⟨v, hv, rv⟩ := fieldA_ok (P := P) (w := w) hA (henv x (by simp [Op.operands]) _ ha) hr
      exact ⟨v, by simp [execOp, hv], rv⟩
    · simp at hr
  · rename_i t x i
    unfold qIndexAddr at hr
    split at hr
    · rename_i a b ha hb
      obtain ⟨v, hv, rv⟩ := indexAtA_ok (P := P) (w := w) hA (henv x (by simp [Op.operands]) _ ha) (henv i (by simp [Op.operands]) _ hb) hr
      exact ⟨v, by simp [execOp, hv], rv⟩
    · simp at hr
  · rename_i t x i
    unfold qIndex at hr
    split at hr
    · rename_i a b ha hb
      obtain ⟨v, hv, rv⟩ := indexA_ok (P := P) (w := w) hA (henv x (by simp [Op.operands]) _ ha) (henv i (by simp [Op.operands]) _ hb) hr
      exact ⟨v, by simp [execOp, hv], rv⟩
    · simp at hr
  · rename_i t m k ok
    unfold qLookup at hr
    split at hr
    · rename_i a b ha hb
      obtain ⟨v, hv, rv⟩ := lookupA_ok (P := P) hA hH (henv m (by simp [Op.operands]) _ ha) (henv k (by simp [Op.operands]) _ hb) hr
      exact ⟨v, by simp [execOp, hv], rv⟩
    · simp at hr
  · rename_i it
    unfold qEntry at hr
    split at hr
    · rename_i b ha
      obtain ⟨p, hp, h1⟩ := henv it (by simp [Op.operands]) _ ha
      split at hr
      · rename_i m since k seen hg
        obtain ⟨p', ob, hp', hw, hrel⟩ := hH.objs _ _ hg rfl
        rw [hp] at hp'; cases hp'
        obtain ⟨hb0, q, sn, hq, rfl, hsn⟩ := hrel
        split at hr
        · rename_i es c hm
          obtain ⟨q', ces, hg', hq', hw', hes, hborn⟩ := map_of hH hm
          rw [hq] at hq'; cases hq'
          rw [cond_eq] at hr
          split at hr
          · rename_i hc
            have hc : c = since := Nat.eq_of_beq_eq_true hc
            subst hc
            have hback : sn.back? = some k := by
              have : sn.toList = seen.reverse ++ [k] := by
                rw [← List.reverse_reverse sn.toList, hsn]; simp
              have e2 : sn = (seen.reverse ++ [k]).toArray := by rw [← this]
              rw [e2]; simp
            have hpick : ∀ (es : List AEntry) (l : List MapEntry), EsRel f es l → qEntry.pick k es = some r → ∃ ce, l.find? (fun x => x.born == k) = some ce ∧ VRel f r (.tuple #[ce.key, ce.val]) := by
              intro es
              induction es with
              | nil => intro l _ h; simp [qEntry.pick] at h
              | cons a es ih =>
                intro l hl h
                obtain ⟨ce, l', rfl, ⟨r1, r2, r3⟩, hl⟩ := hl
                simp only [qEntry.pick, cond_eq] at h
                split at h
                · rename_i hk
                  have hk : a.born = k := Nat.eq_of_beq_eq_true hk
                  simp at h; subst h
                  refine ⟨ce, by simp [List.find?, r3, hk], ⟨_, rfl, ⟨_, _, rfl, r1, ⟨_, _, rfl, r2, rfl⟩⟩⟩⟩
                · rename_i hk
                  obtain ⟨ce', h1, h2⟩ := ih l' hl h
                  have : (ce.born == k) = false := by
                    rw [r3]; cases hb : a.born == k with
                    | false => rfl
                    | true => exact absurd (by simpa using hb) (by intro e; exact hk (by rw [e]; simp))
                  exact ⟨ce', by simp [List.find?, this, h1], h2⟩
            obtain ⟨ce, h2, h3⟩ := hpick es ces.toList hes hr
            have h2' : ces.find? (fun x => x.born == k) = some ce := by rw [← h2]; simp
            refine ⟨.tuple #[ce.key, ce.val], ?_, h3⟩
            have g1 : (getObj p.block).run P w = .ok (.mapIter (some q.block) c sn c) w := by simp [getObj, Sem.run, hw]
            simp [execOp, h1, hb0, Instr.entry, g1, hback, run_getObj_map hw', h2']
          · simp at hr
        · simp at hr
      · simp at hr
    · simp at hr
  · rename_i x xt t ok
    have hfails : ∀ r, qAssert.qFails A ok t = some r → ok = true ∧ ∃ v, (zeroValue t).run P w = .ok v w ∧ VRel f r (.tuple #[v, .bool false]) := by
      intro r hr
      unfold qAssert.qFails at hr
      rw [cond_eq] at hr
      split at hr
      · rename_i hok
        split at hr
        · rename_i z hz
          simp at hr; subst hr
          obtain ⟨v, hv, rv⟩ := run_zero (f := f) hA hz w
          exact ⟨hok, v, hv, ⟨_, rfl, ⟨_, _, rfl, rv, ⟨_, _, rfl, rfl, rfl⟩⟩⟩⟩
        · simp at hr
      · simp at hr
    unfold qAssert at hr
    split at hr
    · simp at hr
    · rename_i s a d hne ha hu
      obtain ⟨y, h1, h2⟩ := henv x (by simp [Op.operands]) _ ha
      rw [cond_eq] at hr
      split at hr
      · rename_i hst
        have hst : s = t := Nat.eq_of_beq_eq_true hst
        subst hst
        simp at hr; subst hr
        refine ⟨if ok then .tuple #[y, .bool true] else y, ?_, ?_⟩
        · simp only [execOp, Instr.typeAssert, Sem.run_bind, run_und hA hu, Result.andThen_ok, h1]
          cases d <;> first | (exact absurd rfl (hne _)) | simp
        · cases ok
          · exact h2
          · exact ⟨_, rfl, ⟨_, _, rfl, h2, ⟨_, _, rfl, rfl, rfl⟩⟩⟩
      · rename_i hst
        have hst : s ≠ t := fun e => hst (by rw [e]; simp)
        obtain ⟨hok, v, hv, rv⟩ := hfails r hr
        subst hok
        refine ⟨_, ?_, rv⟩
        simp only [execOp, Instr.typeAssert, Sem.run_bind, run_und hA hu, Result.andThen_ok, h1]
        cases d <;> first | (exact absurd rfl (hne _)) | (simp [hst, hv]; done) | trace_state
    · rename_i d hne ha hu
      have h1 := henv x (by simp [Op.operands]) _ ha
      rw [VRel] at h1
      obtain ⟨hok, v, hv, rv⟩ := hfails r hr
      subst hok
      refine ⟨_, ?_, rv⟩
      simp only [execOp, Instr.typeAssert, Sem.run_bind, run_und hA hu, Result.andThen_ok, h1]
      cases d <;> first | (exact absurd rfl (hne _)) | (simp [hv]; done) | trace_state
    · simp at hr
  · rename_i x i
    unfold qExtract at hr
    split at hr
    · rename_i vs ha
      obtain ⟨a, h1, h2⟩ := henv x (by simp [Op.operands]) _ ha
      rw [nth_eq] at hr
      obtain ⟨v, hv, rv⟩ := h2.get i r hr
      have hv' : a[i]? = some v := by simpa using hv
      exact ⟨v, by simp [execOp, h1, Instr.extract, hv'], rv⟩
    · simp at hr
  · rename_i c
    unfold qCall at hr
    split at hr
    · rename_i b hb
      obtain ⟨callee, args, argTypes⟩ := c
      simp only at hb hr; subst hb
      obtain ⟨v, hv, rv⟩ := qBuiltin_ok (ρ := ρ) hA hH (fun x hx => henv x (by simp [Op.operands, Call.operands]; simpa using hx)) hr type (args.map fun | .const _ => true | _ => false)
      refine ⟨v, ?_, rv⟩
      have e1 : (args.toList.map ρ).toArray = args.map ρ := by apply Array.ext'; simp
      rw [e1] at hv
      rw [← hv]
      rfl
    · simp at hr
  · simp at hr
end
end Go.Abs

namespace Go.Abs
set_option linter.unusedVariables false
set_option linter.unusedSimpArgs false
section
variable {A : AProg} {P : Program} {L : List (PTree AObj)} {E : Keep} {f : Inj} {h : Heap} {g : Pos → Option AObj} {nx : Pos} {w w' : World}

/-! ## heaps that change -/
def upd (g : Pos → Option AObj) (b : Pos) (o : AObj) : Pos → Option AObj := fun i => if b = i then some o else g i
def Inj.upd (f : Inj) (b : Pos) (p : Place) : Inj := fun i => if b = i then some p else f i
theorem Inj.le_upd {b : Pos} {p : Place} (h : f b = none) : f.le (f.upd b p) := by
  intro i q hq
  unfold Inj.upd
  split
  · subst i; rw [h] at hq; simp at hq
  · exact hq
theorem Inj.upd_same {b : Pos} {p : Place} : f.upd b p b = some p := by simp [Inj.upd]

theorem hget_set (b : Pos) (o : AObj) : hget L (h.set b o) = upd (hget L h) b o := by
  obtain ⟨t, n⟩ := h
  funext i
  simp only [hget, Heap.set, PTree.get_put, upd]
  by_cases e : b = i
  · simp only [if_pos e]
  · simp only [if_neg e]
theorem hget_new (o : AObj) : hget L (h.new o) = upd (hget L h) h.next o := by
  obtain ⟨t, n⟩ := h
  funext i
  simp only [hget, Heap.new, PTree.get_put, upd]
  by_cases e : n = i
  · simp only [if_pos e]
  · simp only [if_neg e]
theorem next_set (b : Pos) (o : AObj) : (h.set b o).next = h.next := by obtain ⟨t, n⟩ := h; rfl
theorem next_new (o : AObj) : (h.new o).next = h.next.inc := by obtain ⟨t, n⟩ := h; rfl

/-- the streams are the same -/
structure WSame (w w' : World) : Prop where
  os : w'.os = w.os
  tape : w'.tape = w.tape
  output : w'.output = w.output
theorem WSame.refl (w : World) : WSame w w := ⟨rfl, rfl, rfl⟩
theorem WSame.trans {a b c : World} (h : WSame a b) (k : WSame b c) : WSame a c := ⟨k.os.trans h.os, k.tape.trans h.tape, k.output.trans h.output⟩

/-- nothing is written, whatever is drawn -/
theorem HRel.same (hH : HRel E f g nx w) (hh : w'.heap = w.heap) (hs : WSame w w') : HRel E f g nx w' where
  objs i o h1 h2 := by rw [hh]; exact hH.objs i o h1 h2
  sep := hH.sep
  fresh i p h1 := hH.fresh i p h1
  kept := hH.kept
  low := hH.low
  res := hH.res
  keep b hb := by rw [hh]; exact hH.keep b hb
  size := by rw [hh]; exact hH.size
  os := hs.os.trans hH.os
  tape := hs.tape.trans hH.tape
  output := hs.output.trans hH.output

/-- less is known -/
theorem HRel.less {g' : Pos → Option AObj} {nx' : Pos} (hH : HRel E f g nx w) (hg : ∀ i o, g' i = some o → o.live = true → g i = some o) (hn : nx.toNat ≤ nx'.toNat) : HRel E f g' nx' w where
  objs i o h1 h2 := hH.objs i o (hg i o h1 h2) h2
  sep i j oi oj p q h1 h2 h3 h4 := hH.sep i j oi oj p q (hg i oi h1 h3) (hg j oj h2 h4) h3 h4
  fresh i p h1 := Nat.lt_of_lt_of_le (hH.fresh i p h1) hn
  kept i o p h1 h2 := hH.kept i o p (hg i o h1 h2) h2
  low := hH.low
  res i hi := ⟨(hH.res i hi).1, Nat.lt_of_lt_of_le (hH.res i hi).2 hn⟩
  keep := hH.keep
  size := hH.size
  os := hH.os
  tape := hH.tape
  output := hH.output

theorem HRel.gone (hH : HRel E f g nx w) (b : Pos) : HRel E f (upd g b .gone) nx w :=
  hH.less (fun i o h1 h2 => by
    unfold upd at h1
    split at h1
    · simp at h1; subst h1; simp [AObj.live] at h2
    · exact h1) (Nat.le_refl _)

/-- a block is named that lies there already, and that nobody else names -/
theorem HRel.adopt {b : Pos} {o : AObj} {p : Place} {ob : Obj} (hH : HRel E f g nx w) (hb : b.toNat < nx.toNat) (hp : f b = some p) (hw : w.heap[p.block]? = some ob) (hr : ORel f p o ob)
    (hk : ¬ E.keep p.block) (hsep : ∀ i oi q, g i = some oi → oi.live = true → i ≠ b → f i = some q → q.block ≠ p.block) : HRel E f (upd g b o) nx w where
  objs i oi h1 h2 := by
    unfold upd at h1
    split at h1
    · subst i; simp at h1; subst h1; exact ⟨p, ob, hp, hw, hr⟩
    · exact hH.objs i oi h1 h2
  sep i j oi oj q r h1 h2 h3 h4 h5 h6 h7 := by
    unfold upd at h1 h2
    split at h1
    · subst i
      split at h2
      · subst j; exact absurd rfl h5
      · rw [hp] at h6; cases h6
        exact fun e => hsep j oj r h2 h4 (fun e => h5 e.symm) h7 e.symm
    · split at h2
      · subst j; rw [hp] at h7; cases h7
        exact hsep i oi q h1 h3 h5 h6
      · exact hH.sep i j oi oj q r h1 h2 h3 h4 h5 h6 h7
  fresh := hH.fresh
  kept i oi q h1 h2 h4 h5 := by
    unfold upd at h1
    split at h1
    · subst i; rw [hp] at h4; cases h4; exact absurd h5 hk
    · exact hH.kept i oi q h1 h2 h4 h5
  low := hH.low
  res := hH.res
  keep := hH.keep
  size := hH.size
  os := hH.os
  tape := hH.tape
  output := hH.output

/-- a number gets its block; nothing is said of what is in it -/
theorem HRel.name {b : Pos} {p : Place} (hH : HRel E f g nx w) (hb : b.toNat < nx.toNat) (hf : f b = none) (hres : ¬ E.res b) : HRel E (f.upd b p) g nx w where
  objs i o h1 h2 := by
    obtain ⟨q, ob, hq, hw, hr⟩ := hH.objs i o h1 h2
    exact ⟨q, ob, Inj.le_upd hf i q hq, hw, hr.mono (Inj.le_upd hf)⟩
  sep i j oi oj q r h1 h2 h3 h4 h5 h6 h7 := by
    obtain ⟨q', _, hq', _, _⟩ := hH.objs i oi h1 h3
    obtain ⟨r', _, hr', _, _⟩ := hH.objs j oj h2 h4
    rw [Inj.le_upd hf i q' hq'] at h6; cases h6
    rw [Inj.le_upd hf j r' hr'] at h7; cases h7
    exact hH.sep i j oi oj q r h1 h2 h3 h4 h5 hq' hr'
  fresh i q h1 := by
    unfold Inj.upd at h1
    split at h1
    · subst i; exact hb
    · exact hH.fresh i q h1
  kept i o q h1 h2 h4 h5 := by
    obtain ⟨q', _, hq', _, _⟩ := hH.objs i o h1 h2
    rw [Inj.le_upd hf i q' hq'] at h4; cases h4
    exact hH.kept i o q h1 h2 hq' h5
  low := hH.low
  res i hi := by
    refine ⟨?_, (hH.res i hi).2⟩
    unfold Inj.upd
    rw [if_neg (by rintro rfl; exact hres hi)]
    exact (hH.res i hi).1
  keep := hH.keep
  size := hH.size
  os := hH.os
  tape := hH.tape
  output := hH.output

theorem HRel.next_none (hH : HRel E f g nx w) {b : Pos} (hb : nx.toNat ≤ b.toNat) : f b = none := by
  cases hf : f b with
  | none => rfl
  | some p => have := hH.fresh b p hf; omega

/-- a block is laid behind all others; nothing is named by it yet -/
theorem HRel.push {ob : Obj} (hH : HRel E f g nx w) (hw : w'.heap = w.heap.push ob) (hs : WSame w w') : HRel E f g nx w' where
  objs i o h1 h2 := by
    obtain ⟨q, ob', hq, hw', hr⟩ := hH.objs i o h1 h2
    exact ⟨q, ob', hq, by rw [hw, Array.getElem?_push, if_neg (by have := (Array.getElem?_eq_some_iff.1 hw').1; omega)]; exact hw', hr⟩
  sep := hH.sep
  fresh i q h1 := hH.fresh i q h1
  kept := hH.kept
  low := hH.low
  res := hH.res
  keep b hb := by
    obtain ⟨h1, h2⟩ := hH.keep b hb
    exact ⟨h1, by rw [hw, Array.getElem?_push, if_neg (by have := hH.size; omega)]; exact h2⟩
  size := by rw [hw]; have := hH.size; simp; omega
  os := hs.os.trans hH.os
  tape := hs.tape.trans hH.tape
  output := hs.output.trans hH.output

/-- a new block -/
theorem HRel.new {ob : Obj} {o : AObj} {room : Nat} (hH : HRel E f g nx w) (hw : w'.heap = w.heap.push ob) (hs : WSame w w')
    (hr : ORel (f.upd nx ⟨w.heap.size, 0, room⟩) ⟨w.heap.size, 0, room⟩ o ob) : HRel E (f.upd nx ⟨w.heap.size, 0, room⟩) (upd g nx o) nx.inc w' := by
  have hn : f nx = none := hH.next_none (Nat.le_refl _)
  have h1 : HRel E f g nx.inc w' := (hH.push hw hs).less (fun _ _ h _ => h) (by rw [Pos.toNat_inc]; omega)
  have h2 := h1.name (b := nx) (p := ⟨w.heap.size, 0, room⟩) (by rw [Pos.toNat_inc]; omega) hn (fun hr => by have := (hH.res nx hr).2; omega)
  refine h2.adopt (b := nx) (p := ⟨w.heap.size, 0, room⟩) (ob := ob) (by rw [Pos.toNat_inc]; omega) Inj.upd_same (by rw [hw]; simp) hr ?_ ?_
  · intro hk
    have := (hH.keep _ hk).1
    have := hH.size
    simp only at *
    omega
  · intro i oi q hg hl hne hq
    unfold Inj.upd at hq
    rw [if_neg (fun e => hne e.symm)] at hq
    obtain ⟨q', ob', hq', hw', _⟩ := hH.objs i oi hg hl
    rw [hq] at hq'; cases hq'
    have := (Array.getElem?_eq_some_iff.1 hw').1
    simp only
    omega

/-- a block is written -/
theorem HRel.write {b : Pos} {o o' : AObj} {p : Place} {ob' : Obj} (hH : HRel E f g nx w) (hg : g b = some o) (hl : o.live = true) (hro : o.ro = false) (hp : f b = some p)
    (hsz : w'.heap.size = w.heap.size) (hoth : ∀ k, k ≠ p.block → w'.heap[k]? = w.heap[k]?) (hob : w'.heap[p.block]? = some ob') (hs : WSame w w') (hr : ORel f p o' ob') : HRel E f (upd g b o') nx w' where
  objs i oi h1 h2 := by
    unfold upd at h1
    split at h1
    · subst i; simp at h1; subst h1; exact ⟨p, ob', hp, hob, hr⟩
    · rename_i hne
      obtain ⟨q, ob, hq, hw, hr⟩ := hH.objs i oi h1 h2
      exact ⟨q, ob, hq, by rw [hoth _ (fun e => hH.sep i b oi o q p h1 hg h2 hl (fun e => hne e.symm) hq hp e)]; exact hw, hr⟩
  sep i j oi oj q r h1 h2 h3 h4 h5 h6 h7 := by
    unfold upd at h1 h2
    split at h1
    · subst i
      split at h2
      · subst j; exact absurd rfl h5
      · exact hH.sep b j o oj q r hg h2 hl h4 h5 h6 h7
    · split at h2
      · subst j; exact hH.sep i b oi o q r h1 hg h3 hl h5 h6 h7
      · exact hH.sep i j oi oj q r h1 h2 h3 h4 h5 h6 h7
  fresh i q h1 := hH.fresh i q h1
  kept i oi q h1 h2 h4 h5 := by
    unfold upd at h1
    split at h1
    · subst i; exact absurd h5 (hH.wr b o q hg hl hro h4)
    · exact hH.kept i oi q h1 h2 h4 h5
  low := hH.low
  res := hH.res
  keep k hk := by
    obtain ⟨h1, h2⟩ := hH.keep k hk
    refine ⟨h1, ?_⟩
    rw [hoth k (fun e => hH.wr b o p hg hl hro hp (e ▸ hk))]; exact h2
  size := by rw [hsz]; exact hH.size
  os := hs.os.trans hH.os
  tape := hs.tape.trans hH.tape
  output := hs.output.trans hH.output

/-! ## operations that make a block -/
theorem zeros_rel {z : List AVal} {vz : Array Value} (hz : VsRel f z vz.toList) (n : Nat) : VsRel f (repl n z) ((Array.range (n * z.length)).map (fun i => vz[i % vz.size]!)).toList := by
  have hlen := hz.length
  simp only [Array.length_toList] at hlen
  refine VsRel.mk (by simp [repl_length]) ?_
  intro i x y hx hy
  have hi : i < n * z.length := by
    have := (List.getElem?_eq_some_iff.1 hx).1
    rwa [repl_length] at this
  rw [repl_get _ _ _ hi] at hx
  obtain ⟨v, hv, rv⟩ := hz.get _ x hx
  simp only [Array.toList_map, Array.toList_range, List.getElem?_map] at hy
  rw [List.getElem?_range hi] at hy
  simp only [Option.map_some, Option.some.injEq] at hy
  subst hy
  rw [hlen] at hv
  have hv' : vz[i % vz.size]? = some v := by simpa using hv
  rw [getElem!_def, hv']
  exact rv

theorem CRel.of {base : Nat} {c : List AVal} {cs : Array Value} (h : VsRel f c cs.toList) : CRel f 0 c cs := by
  intro k v hv
  obtain ⟨v', h1, h2⟩ := h.get k v hv
  exact ⟨v', by simpa using h1, h2⟩

/-- what a new block is, whatever it is called -/
structure Made (f : Inj) (w w' : World) (o : AObj) (m : Mk) (v : Value) : Prop where
  ex : ∃ ob room, w'.heap = w.heap.push ob ∧ ∀ f' id, f.le f' → f' id = some ⟨w.heap.size, 0, room⟩ → ORel f' ⟨w.heap.size, 0, room⟩ o ob ∧ VRel f' (m.val id) v
  same : WSame w w'
  live : o.live = true
  wr : o.ro = false

theorem made_cells {c : List AVal} {cs : Array Value} (hc : VsRel f c cs.toList) (t : TypeId) {m : Mk} {v : Value}
    (hv : ∀ f' id, f.le f' → f' id = some (⟨w.heap.size, 0, 0⟩ : Place) → VRel f' (m.val id) v) : Made f w (w.alloc (.cells cs t)) (.cells c 0 false false) m v where
  ex := ⟨.cells cs t, 0, rfl, fun f' id hle hid => ⟨⟨cs, t, (0, 0), rfl, (CRel.of hc (base := 0)).mono hle, by simp, by simp, by simp⟩, hv f' id hle hid⟩⟩
  same := ⟨rfl, rfl, rfl⟩
  live := rfl
  wr := rfl

theorem bytesVals_rel : ∀ (l : List UInt8), VsRel f (bytesVals (l.map UInt8.toNat)) (l.map fun b => .int .u8 b.toNat) := by
  intro l
  induction l with
  | nil => exact VsRel.nil
  | cons b l ih => exact ⟨_, _, rfl, rfl, ih⟩

theorem modify_push (a : Array Obj) (o : Obj) (F : Obj → Obj) : (a.push o).modify a.size F = a.push (F o) := by
  apply Array.ext_getElem?
  intro i
  simp only [Array.getElem?_modify, Array.getElem?_push]
  split
  · subst i; simp
  · rename_i h
    rw [if_neg (fun e => h e.symm)]
    rw [if_neg (fun e => h e.symm)]

theorem fresh_ok (hA : A.Ok P) {e : Env} {ρ : Operand → Value} {op : Oper} (henv : OpEnv f e ρ op.op.operands.toList) {o : AObj} {m : Mk}
    (hr : fresh A e op.op = some (o, m)) : ∃ v w', (execOp ρ op).run P w = .ok (.value v) w' ∧ Made f w w' o m v := by
  obtain ⟨dst, op, type, pos, after, guard⟩ := op
  simp only at henv hr
  unfold fresh at hr
  split at hr
  · rename_i t
    unfold fAlloc at hr
    split at hr
    · rename_i z hz
      simp at hr; obtain ⟨rfl, rfl⟩ := hr
      obtain ⟨v, hv, rv⟩ := run_zero (f := f) hA hz w
      exact ⟨.pointer (some ⟨w.heap.size, 0, none⟩), w.alloc (.cells v.cells t), by simp [execOp, Instr.alloc, hv, newVar, newRow],
        made_cells (VRel.cells rv) t fun f' id hle hid => ⟨_, hid, rfl⟩⟩
    · simp at hr
  · rename_i t x
    unfold fBox at hr
    split at hr
    · rename_i a ha
      simp at hr; obtain ⟨rfl, rfl⟩ := hr
      have rv := henv x (by simp [Op.operands]) _ ha
      exact ⟨.pointer (some ⟨w.heap.size, 0, none⟩), w.alloc (.cells (ρ x).cells t), by simp [execOp, Instr.box, newVar, newRow],
        made_cells (VRel.cells rv) t fun f' id hle hid => ⟨_, hid, rfl⟩⟩
    · simp at hr
  · rename_i t n ps
    unfold fBuildSlice at hr
    split at hr
    · rename_i l el hl hu
      split at hr
      · rename_i s z hs hz
        rw [cond_eq] at hr
        split at hr
        · rename_i hck
          simp only [Bool.and_eq_true, Nat.ble_eq] at hck
          obtain ⟨hle, hzs⟩ := hck
          have hzs : z.cells.length = s := Nat.eq_of_beq_eq_true hzs
          split at hr
          · rename_i c hc
            simp at hr; obtain ⟨rfl, rfl⟩ := hr
            obtain ⟨vz, hvz, rz⟩ := run_zero (f := f) hA hz w
            have rzc := VRel.cells rz
            have h1 := evalParts_ok (f := f) (ρ := ρ) (fun x hx => henv x (by simpa [Op.operands] using hx)) hl
            have hzero := zeros_rel rzc n
            rw [hzs] at hzero
            obtain ⟨vc, h2, h3⟩ := fill_ok (f := f) (pa := fun i => some (i * s, s)) (place := fun i => some (i * s, s)) (fun i r h => h) l _ c hc (ps.map fun (i, x) => (i, ρ x)).toList _ (by simpa using h1) hzero
            refine ⟨.slice (some ⟨w.heap.size, 0, none⟩) n n, w.alloc (.cells vc el), ?_, made_cells h3 el fun f' id hle hid => ⟨_, hid, by simp, Nat.le_refl _⟩⟩
            simp only [execOp, Instr.buildSlice, Sem.run_bind, run_und hA hu, Result.andThen_ok, run_size hA hs]
            rw [if_neg (by simpa using hle)]
            have hr0 : ∀ F : Nat → Value, (Array.range 0).map F = #[] := fun _ => by apply Array.ext'; simp
            have h2' : Instr.fill (fun i => some (i * s, s)) ((Array.range (n * s)).map (fun i => vz.cells[i % vz.cells.size]!)) (ps.toList.map fun x => (x.fst, ρ x.snd)) = some vc := by
              rw [← h2]; simp
            by_cases h0 : n * s = 0
            · rw [h0, hr0] at h2'
              simp [h0, hr0, h2', newRow]
            · simp [h0, hvz, h2', newRow]
          · simp at hr
        · simp at hr
      · simp at hr
    · simp at hr
  · rename_i t l c
    unfold fMakeSlice at hr
    split at hr
    · rename_i a b el ha hb hu
      split at hr
      · rename_i n mm hn hmm
        split at hr
        · rename_i s bs z hs hbs hz
          rw [cond_eq] at hr
          split at hr
          · rename_i hck
            simp only [Bool.and_eq_true, Nat.ble_eq] at hck
            obtain ⟨⟨⟨hnm, hm20⟩, hb20⟩, hzs⟩ := hck
            have hzs : z.cells.length = s := Nat.eq_of_beq_eq_true hzs
            simp at hr; obtain ⟨rfl, rfl⟩ := hr
            obtain ⟨k1, e1⟩ := natOf_ok hn (henv l (by simp [Op.operands]) _ ha)
            obtain ⟨k2, e2⟩ := natOf_ok hmm (henv c (by simp [Op.operands]) _ hb)
            obtain ⟨vz, hvz, rz⟩ := run_zero (f := f) hA hz w
            have rzc := VRel.cells rz
            have hzero := zeros_rel rzc mm
            rw [hzs] at hzero
            obtain ⟨ti, hti, hbytes⟩ := run_bytes hA hbs w
            have hw1 : ∀ q : Nat, q ≤ 1048576 → IntKind.i64.wrap (q : Int) = q := by
              intro q hq
              rw [← wrapA_eq]
              show wrapA .i64 (.ofNat q) = _
              simp only [wrapA, cond_eq, Nat.ble_eq]
              rw [if_neg (by omega)]; rfl
            refine ⟨.slice (some ⟨w.heap.size, 0, none⟩) n mm, w.alloc (.cells ((Array.range (mm * s)).map (fun i => vz.cells[i % vz.cells.size]!)) el), ?_, made_cells hzero el fun f' id hle hid => ⟨_, hid, by simp, hnm⟩⟩
            have hbig : ¬ ((bs : Int) * (mm : Int) > 2 ^ 48) := by
              have : bs * mm ≤ 1048576 * 1048576 := Nat.mul_le_mul hb20 hm20
              have := Int.ofNat_le.2 this
              rw [Int.natCast_mul] at this
              omega
            have hbig2 : ¬ ((bs : Int) * (n : Int) > 2 ^ 48) := by
              have : bs * n ≤ 1048576 * 1048576 := Nat.mul_le_mul hb20 (by omega)
              have := Int.ofNat_le.2 this
              rw [Int.natCast_mul] at this
              omega
            have w1 := hw1 mm hm20
            have w2 := hw1 n (by omega)
            simp only [execOp, Instr.makeSlice, Sem.run_bind, run_und hA hu, Result.andThen_ok, e1, e2, asInt, asIntOf, Sem.run_pure, hti, hbytes, Int.ofNat_eq_natCast, w1, w2]
            rw [if_neg (by simp; omega)]
            simp only [Sem.run_pure, Result.andThen_ok, run_askRoom, run_size hA hs, Int.toNat_natCast]
            have hr0 : ∀ F : Nat → Value, (Array.range 0).map F = #[] := fun _ => by apply Array.ext'; simp
            by_cases h0 : mm * s = 0
            · simp [h0, hr0, newRow, run_size hA hs]
            · simp [h0, hvz, newRow, run_size hA hs]
          · simp at hr
        · simp at hr
      · simp at hr
    · simp at hr
  · rename_i t rs
    have hmk : Made f w (w.alloc (.map #[] 0)) (.map [] 0) .map (.map (some w.heap.size)) := by
      refine ⟨⟨.map #[] 0, 0, rfl, fun f' id hle hid => ⟨⟨#[], rfl, rfl, by simp⟩, ⟨_, hid, rfl⟩⟩⟩, ⟨rfl, rfl, rfl⟩, rfl, rfl⟩
    unfold fMakeMap at hr
    split at hr
    · simp at hr; obtain ⟨rfl, rfl⟩ := hr
      exact ⟨_, _, by simp [execOp, Instr.makeMap], hmk⟩
    · rename_i x
      split at hr
      · rename_i k n k1 e1 ha hu
        simp at hr; obtain ⟨rfl, rfl⟩ := hr
        have h1 := henv x (by simp [Op.operands]) _ ha
        rw [VRel] at h1
        exact ⟨_, _, by simp [execOp, Instr.makeMap, run_und hA hu, h1, asInt, asIntOf], hmk⟩
      · simp at hr
  · rename_i s d x
    unfold fConv at hr
    split at hr
    · rename_i l el ha h1 h2
      split at hr
      · rename_i he
        simp at hr; obtain ⟨rfl, rfl⟩ := hr
        obtain ⟨bs, hbs, rfl⟩ := henv x (by simp [Op.operands]) _ ha
        have hsz : (bytesOf bs).length = bs.size := by simp [bytesOf]
        obtain ⟨cap, hcap, hcapr⟩ : ∃ cap, bs.size ≤ cap ∧ (choose (.appendCap bs.size 0 el)).run P w = .ok cap w.drew := by
          refine ⟨_, ?_, by simp [Question.forced]; rfl⟩
          simp only [Question.cut]; omega
        refine ⟨.slice (some ⟨w.heap.size, 0, none⟩) bs.size cap, { w.drew with heap := w.heap.push (.cells (bs.data.map (fun b => .int .u8 b.toNat) ++ Array.replicate (cap - bs.size) (.int .u8 0)) el (cap, cap + 1)) }, ?_, ⟨⟨_, cap, rfl, ?_⟩, ⟨rfl, rfl, rfl⟩, rfl, rfl⟩⟩
        · simp only [execOp, convert, Sem.run_bind, run_und hA h1, run_und hA h2, Result.andThen_ok, hbs, run_und hA he, Conv.stringToBytes, hcapr]
          simp only [newRow, Sem.run_bind, run_newObj, Result.andThen_ok, Sem.run_pure, markStringish, run_shape, World.shape?]
          simp [World.drew, World.freeze, modify_push, -World.drew_eq]
          rw [show bs.size + (cap - bs.size) = cap from by omega]
        · intro f' id hle hid
          refine ⟨⟨_, _, _, rfl, ?_, ?_, ?_, by simp⟩, ⟨_, hid, by omega, .inl ⟨cap, by rw [hsz], by rw [hsz]; omega, by simp⟩⟩⟩
          · apply CRel.mono hle
            intro k v hv
            obtain ⟨v', h3, h4⟩ := (bytesVals_rel (f := f) bs.data.toList).get k v hv
            refine ⟨v', ?_, h4⟩
            have hk := (List.getElem?_eq_some_iff.1 h3).1
            rw [Nat.zero_add, Array.getElem?_append_left (by simpa using hk)]
            simpa using h3
          · intro k hk; simp at hk ⊢; have : bs.data.size = bs.size := rfl; omega
          · intro _; have e1 : (bytesVals (bytesOf bs)).length = bs.size := by have := (bytesVals_rel (f := f) bs.data.toList).length; simpa [bytesOf] using this
            have : bs.data.size = bs.size := rfl
            simp [e1]; omega
      · simp at hr
    · simp at hr
  · simp at hr
end
end Go.Abs

namespace Go.Abs
set_option linter.unusedVariables false
set_option linter.unusedSimpArgs false
section
variable {A : AProg} {P : Program} {L : List (PTree AObj)} {E : Keep} {f : Inj} {h h' : Heap} {nx : Pos} {w : World}

/-! ## cells, stored -/
theorem storeCells_run {b : Nat} {e : TypeId} {fz : Nat × Nat} (off : Nat) : ∀ (vs : List Value) (i : Nat) (cs : Array Value) (w : World), w.heap[b]? = some (.cells cs e fz) →
    off + i + vs.length ≤ cs.size → (∀ k, k < cs.size → ¬(fz.1 ≤ k ∧ k < fz.2)) → (∀ v ∈ vs, v.oneCell' = true) →
    ∃ w' cs', (storeCells ⟨b, off, none⟩ vs i).run P w = .ok () w' ∧ w'.heap.size = w.heap.size ∧ (∀ k, k ≠ b → w'.heap[k]? = w.heap[k]?) ∧ w'.heap[b]? = some (.cells cs' e fz) ∧
      cs'.toList = cs.toList.take (off + i) ++ vs ++ cs.toList.drop (off + i + vs.length) ∧ WSame w w' := by
  intro vs
  induction vs with
  | nil => intro i cs w hw hle hfz hone; exact ⟨w, cs, by simp [storeCells], rfl, fun _ _ => rfl, hw, by simp, WSame.refl w⟩
  | cons v vs ih =>
    intro i cs w hw hle hfz hone
    simp only [List.length_cons] at hle
    have hlt : off + i < cs.size := by omega
    have hcell : w.cell? ⟨b, off + i, none⟩ = some (cs[off + i]) := by simp [World.cell?, hw, hlt]
    have hnf : w.frozen? ⟨b, off + i, none⟩ = false := by
      have := hfz _ hlt
      simp only [World.frozen?, hw]
      simp
      omega
    have hw1 : (w.setCell ⟨b, off + i, none⟩ v).heap[b]? = some (.cells (cs.setIfInBounds (off + i) v) e fz) := by
      simp [World.setCell, Array.getElem?_modify, hw]
    obtain ⟨w', cs', h1, h2, h3, h4, h5, h6⟩ := ih (i + 1) (cs.setIfInBounds (off + i) v) (w.setCell ⟨b, off + i, none⟩ v) hw1 (by simp; omega) (by intro k hk; exact hfz k (by simpa using hk)) (fun x hx => hone x (by simp [hx]))
    refine ⟨w', cs', ?_, by rw [h2]; simp, ?_, h4, ?_, ⟨h6.os, h6.tape, h6.output⟩⟩
    · simp only [storeCells, Sem.run_bind, add_addr]
      rw [run_store P w _ v .plain (hone v (by simp))]
      simp only [hcell, hnf, Bool.false_eq_true, if_false, Result.andThen_ok]
      exact h1
    · intro k hk
      rw [h3 k hk]
      simp only [World.setCell, Array.getElem?_modify]
      rw [if_neg (fun e => hk e.symm)]
    · rw [h5]
      simp only [Array.toList_setIfInBounds, List.length_cons]
      have hl : off + i < cs.toList.length := by simpa using hlt
      rw [List.drop_set, if_pos (by omega)]
      have e1 : off + (i + 1) = off + i + 1 := by omega
      rw [e1, List.take_succ_eq_append_getElem (by simpa using hl), List.take_set, List.set_eq_of_length_le (by simp; omega)]
      simp
      omega

theorem CRel.spliced {base off : Nat} {c vs : List AVal} {cs cs' : Array Value} {cvs : List Value} (h : CRel f base c cs) (hv : VsRel f vs cvs) (hle : off + vs.length ≤ c.length) (hsz : base + off + vs.length ≤ cs.size)
    (h' : cs'.toList = cs.toList.take (base + off) ++ cvs ++ cs.toList.drop (base + off + cvs.length)) : CRel f base (c.take off ++ vs ++ c.drop (off + vs.length)) cs' := by
  have hlen := hv.length
  intro k v hk
  have hcs : cs'[base + k]? = (cs.toList.take (base + off) ++ cvs ++ cs.toList.drop (base + off + cvs.length))[base + k]? := by rw [← h']; simp
  rw [hcs]
  by_cases h1 : k < off
  · rw [List.append_assoc, List.getElem?_append_left (by simp; omega)] at hk
    rw [List.append_assoc, List.getElem?_append_left (by simp; omega)]
    rw [List.getElem?_take, if_pos h1] at hk
    rw [List.getElem?_take, if_pos (by omega)]
    obtain ⟨v', a, b⟩ := h k v hk
    exact ⟨v', by simpa using a, b⟩
  · by_cases h2 : k < off + vs.length
    · rw [List.getElem?_append_left (by simp; omega), List.getElem?_append_right (by simp; omega)] at hk
      rw [List.getElem?_append_left (by simp; omega), List.getElem?_append_right (by simp; omega)]
      have e1 : (c.take off).length = off := by simp; omega
      have e2 : (cs.toList.take (base + off)).length = base + off := by simp; omega
      rw [e1] at hk; rw [e2]
      obtain ⟨v', a, b⟩ := hv.get _ v hk
      have : base + k - (base + off) = k - off := by omega
      rw [this]; exact ⟨v', a, b⟩
    · rw [List.getElem?_append_right (by simp; omega)] at hk
      rw [List.getElem?_append_right (by simp; omega)]
      have e1 : (c.take off ++ vs).length = off + vs.length := by simp; omega
      have e2 : (cs.toList.take (base + off) ++ cvs).length = base + off + cvs.length := by simp; omega
      rw [e1] at hk; rw [e2]
      rw [List.getElem?_drop] at hk ⊢
      have e3 : off + vs.length + (k - (off + vs.length)) = k := by omega
      have e4 : base + off + cvs.length + (base + k - (base + off + cvs.length)) = base + k := by omega
      rw [e3] at hk; rw [e4]
      obtain ⟨v', a, b⟩ := h k v hk
      exact ⟨v', by simpa using a, b⟩

theorem allOne_mem {vs : List AVal} {cvs : List Value} (ho : allOne vs = true) (hv : VsRel f vs cvs) : ∀ v ∈ cvs, v.oneCell' = true := by
  intro v hm
  obtain ⟨i, hi⟩ := List.getElem?_of_mem hm
  have hlt := (List.getElem?_eq_some_iff.1 hi).1
  rw [← hv.length] at hlt
  obtain ⟨y, hy, r⟩ := hv.get i vs[i] (by rw [List.getElem?_eq_getElem hlt])
  rw [hi] at hy; cases hy
  exact r.one (allOne_get ho i _ (by rw [List.getElem?_eq_getElem hlt]))

theorem storeA_ok (hH : HRel E f (hget L h) nx w) {b : Pos} {off : Nat} {vs : List AVal} (hr : storeA L h b off vs = some h') {cvs : List Value} (hv : VsRel f vs cvs) :
    ∃ p w', f b = some p ∧ (storeCells ⟨p.block, p.base + off, none⟩ cvs 0).run P w = .ok () w' ∧ HRel E f (hget L h') nx w' ∧ h'.next = h.next := by
  unfold storeA at hr
  rw [cond_eq] at hr
  split at hr
  · rename_i hone
    split at hr
    · rename_i c o s hg
      split at hr
      · rename_i c' hsp
        simp at hr; subst hr
        obtain ⟨h1, rfl⟩ := splice_some _ _ _ _ hsp
        obtain ⟨p, ob, hp, hw, hrel⟩ := hH.objs _ _ hg rfl
        obtain ⟨cs, e, fz, rfl, hc, hfz, hroom, hstr⟩ := hrel
        have hlen := hv.length
        have hsz : p.base + off + vs.length ≤ cs.size ∨ vs = [] := by
          cases vs with
          | nil => exact .inr rfl
          | cons x vs =>
            left
            have := hc.size (by intro e; rw [e] at h1; simp at h1)
            omega
        rcases hsz with hsz | rfl
        · obtain ⟨w', cs', g1, g2, g3, g4, g5, g6⟩ := storeCells_run (P := P) (p.base + off) cvs 0 cs w hw (by omega) hfz (allOne_mem hone hv)
          refine ⟨p, w', hp, g1, ?_, next_set b _⟩
          rw [hget_set]
          refine hH.write hg rfl rfl hp g2 g3 g4 g6 ⟨cs', e, fz, rfl, ?_, ?_, ?_, hstr⟩
          · exact hc.spliced hv h1 hsz (by simpa using g5)
          · have : cs'.size = cs.size := by
              have := congrArg List.length g5
              simp at this; omega
            rw [this]; exact hfz
          · have : cs'.size = cs.size := by
              have := congrArg List.length g5
              simp at this; omega
            rw [this]
            intro ho
            have h2 := hroom ho
            exact ⟨by simp; omega, h2.2⟩
        · rw [VsRel] at hv; subst hv
          refine ⟨p, w, hp, by simp [storeCells], ?_, next_set b _⟩
          rw [hget_set]
          exact hH.write hg rfl rfl hp rfl (fun _ _ => rfl) hw (WSame.refl w) ⟨cs, e, fz, rfl, by simpa using hc, hfz, by simpa using hroom, hstr⟩
      · simp at hr
    · simp at hr
  · simp at hr

/-- what a writing operation comes to, where it only gives a value -/
def VOut (E : Keep) (f : Inj) (L : List (PTree AObj)) (res : Result Next) (v : AVal) (h' : Heap) : Prop :=
  ∃ f' n v' w', res = .ok n w' ∧ (n = .value v' ∨ (n = .skip ∧ v' = undef)) ∧ f.le f' ∧ VRel f' v v' ∧ HRel E f' (hget L h') h'.next w'

theorem undef_rel : VRel f undefA undef := ⟨#[], rfl, rfl⟩

theorem VOut.skip {w' : World} (hH : HRel E f (hget L h') h'.next w') : VOut E f L (.ok .skip w') undefA h' :=
  ⟨f, .skip, undef, w', rfl, .inr ⟨rfl, rfl⟩, f.le_refl, undef_rel, hH⟩
theorem VOut.value {w' : World} {v : AVal} {v' : Value} (hv : VRel f v v') (hH : HRel E f (hget L h') h'.next w') : VOut E f L (.ok (.value v') w') v h' :=
  ⟨f, _, v', w', rfl, .inl rfl, f.le_refl, hv, hH⟩

theorem wStore_ok (hA : A.Ok P) (hH : HRel E f (hget L h) h.next w) {e : Env} {ρ : Operand → Value} {o : Oper} {t : TypeId} {a x : Operand} (ho : o.op = .store t a x) (henv : OpEnv f e ρ o.op.operands.toList) {v : AVal}
    (hr : wStore A L e h t a x = .val v h') : VOut E f L ((execOp ρ o).run P w) v h' := by
  unfold wStore at hr
  split at hr
  · rename_i b off ha
    split at hr
    · rename_i y s hy hs
      rw [cond_eq] at hr
      split at hr
      · rename_i hlen
        have hlen : y.cells.length = s := Nat.eq_of_beq_eq_true hlen
        split at hr
        · rename_i h1 hst
          simp at hr; obtain ⟨rfl, rfl⟩ := hr
          rw [ho] at henv
          obtain ⟨p', hp', e1⟩ := henv a (by simp [Op.operands]) _ ha
          have rv := VRel.cells (henv x (by simp [Op.operands]) _ hy)
          obtain ⟨p, w', hp, g1, g2, g3⟩ := storeA_ok (P := P) hH hst rv
          rw [hp] at hp'; cases hp'
          have hsz : (ρ x).cells.size = s := by have := rv.length; simp at this; omega
          have : (execOp ρ o).run P w = .ok .skip w' := by
            simp [execOp, ho, Instr.storeAt, e1, Instr.sureAddr, storeVar, run_size hA hs, hsz, g1]
          rw [this]
          exact VOut.skip (by rw [g3]; exact g2)
        · simp at hr
      · simp at hr
    · simp at hr
  · simp at hr

/-! ## maps, written -/
theorem EsRel.length : ∀ {es : List AEntry} {l : List MapEntry}, EsRel f es l → es.length = l.length := by
  intro es
  induction es with
  | nil => intro l h; rw [EsRel] at h; subst h; rfl
  | cons a es ih => intro l h; obtain ⟨x, l', rfl, _, h⟩ := h; simp [ih h]
theorem EsRel.set {e : AEntry} {ce : MapEntry} (hk : VRel f e.k ce.key) (hv : VRel f e.v ce.val) (hb : ce.born = e.born) : ∀ {es : List AEntry} {l : List MapEntry} (j : Nat), EsRel f es l → EsRel f (es.set j e) (l.set j ce) := by
  intro es
  induction es with
  | nil => intro l j h; rw [EsRel] at h; subst h; exact rfl
  | cons a es ih =>
    intro l j h
    obtain ⟨x, l', rfl, h1, h⟩ := h
    cases j with
    | zero => exact ⟨_, _, rfl, ⟨hk, hv, hb⟩, h⟩
    | succ j => exact ⟨_, _, rfl, h1, ih j h⟩
theorem EsRel.erase : ∀ {es : List AEntry} {l : List MapEntry} (j : Nat), EsRel f es l → EsRel f (es.eraseIdx j) (l.eraseIdx j) := by
  intro es
  induction es with
  | nil => intro l j h; rw [EsRel] at h; subst h; exact rfl
  | cons a es ih =>
    intro l j h
    obtain ⟨x, l', rfl, h1, h⟩ := h
    cases j with
    | zero => exact h
    | succ j => exact ⟨_, _, rfl, h1, ih j h⟩
theorem EsRel.snoc {e : AEntry} {ce : MapEntry} (hk : VRel f e.k ce.key) (hv : VRel f e.v ce.val) (hb : ce.born = e.born) : ∀ {es : List AEntry} {l : List MapEntry}, EsRel f es l → EsRel f (es ++ [e]) (l ++ [ce]) := by
  intro es
  induction es with
  | nil => intro l h; rw [EsRel] at h; subst h; exact ⟨_, _, rfl, ⟨hk, hv, hb⟩, rfl⟩
  | cons a es ih =>
    intro l h
    obtain ⟨x, l', rfl, h1, h⟩ := h
    exact ⟨_, _, rfl, h1, ih h⟩
theorem EsRel.get : ∀ {es : List AEntry} {l : List MapEntry} (j : Nat) (e : AEntry), EsRel f es l → es[j]? = some e → ∃ ce, l[j]? = some ce ∧ VRel f e.k ce.key ∧ VRel f e.v ce.val ∧ ce.born = e.born := by
  intro es
  induction es with
  | nil => intro l j e h he; simp at he
  | cons a es ih =>
    intro l j e h he
    obtain ⟨x, l', rfl, h1, h⟩ := h
    cases j with
    | zero => simp at he; subst he; exact ⟨x, rfl, h1⟩
    | succ j => exact ih j e h (by simpa using he)

theorem run_setObj_map {b : Nat} {ces : Array MapEntry} {c : Nat} (hw : w.heap[b]? = some (.map ces c)) (ob : Obj) :
    (setObj b ob).run P w = .ok () { w with heap := w.heap.setIfInBounds b ob } := by simp [setObj, Sem.run, hw]

/-- an object that is no row of cells is laid anew -/
theorem HRel.put {g : Pos → Option AObj} {b : Pos} {o o' : AObj} {p : Place} {ob ob' : Obj} (hH : HRel E f g nx w) (hg : g b = some o) (hl : o.live = true) (hro : o.ro = false) (hp : f b = some p)
    (hw : w.heap[p.block]? = some ob) (hr : ORel f p o' ob') : HRel E f (upd g b o') nx { w with heap := w.heap.setIfInBounds p.block ob' } := by
  refine hH.write hg hl hro hp (by simp) ?_ ?_ ⟨rfl, rfl, rfl⟩ hr
  · intro k hk
    simp only [Array.getElem?_setIfInBounds]
    rw [if_neg (fun e => hk e.symm)]
  · have := (Array.getElem?_eq_some_iff.1 hw).1
    simp [this]

mutual
def depthV : AVal → Nat
  | .agg cs => depthVs cs + 1
  | _ => 0
def depthVs : List AVal → Nat
  | [] => 0
  | a :: l => max (depthV a) (depthVs l)
end

mutual
theorem sameBits_self : ∀ (a b : AVal) (v : Value), same a b = true → VRel f a v → ∀ n, depthV a ≤ n → Instr.sameBits n v v = true
  | .bool x, b, v, h, hv, n, _ => by rw [VRel] at hv; subst hv; simp [Instr.sameBits]
  | .int j x, b, v, h, hv, n, _ => by rw [VRel] at hv; subst hv; simp [Instr.sameBits]
  | .str x, b, v, h, hv, n, _ => by obtain ⟨s, rfl, rfl⟩ := hv; simp [Instr.sameBits, byteArray_beq]
  | .agg x, b, v, h, hv, n, hn => by
    cases b with
    | agg y =>
      simp only [same] at h
      obtain ⟨s, rfl, hv⟩ := hv
      simp only [depthV] at hn
      obtain ⟨n, rfl⟩ : ∃ m, n = m + 1 := ⟨n - 1, by omega⟩
      simp only [Instr.sameBits, beq_self_eq_true, Bool.true_and]
      exact samesBits_self x y s.toList h hv n (by omega)
    | _ => simp [same] at h
  | .ptr _ _, b, _, h, _, _, _ => by simp [same] at h
  | .nilPtr, b, _, h, _, _, _ => by simp [same] at h
  | .slice _ _ _ _, b, _, h, _, _, _ => by simp [same] at h
  | .sliceO _ _ _ _, b, _, h, _, _, _ => by simp [same] at h
  | .nilSlice, b, _, h, _, _, _ => by simp [same] at h
  | .map _, b, _, h, _, _, _ => by simp [same] at h
  | .nilMap, b, _, h, _, _, _ => by simp [same] at h
  | .func _ _ _, b, _, h, _, _, _ => by simp [same] at h
  | .yield _, b, _, h, _, _, _ => by simp [same] at h
  | .nilFunc, b, _, h, _, _, _ => by simp [same] at h
  | .iface _ _, b, _, h, _, _, _ => by simp [same] at h
  | .nilIface, b, _, h, _, _, _ => by simp [same] at h
  | .tuple _, b, _, h, _, _, _ => by simp [same] at h
theorem samesBits_self : ∀ (a b : List AVal) (v : List Value), sames a b = true → VsRel f a v → ∀ n, depthVs a ≤ n → ((v.zip v).all fun (x, y) => Instr.sameBits n x y) = true
  | [], b, v, h, hv, n, _ => by rw [VsRel] at hv; subst hv; rfl
  | x :: a, b, v, h, hv, n, hn => by
    cases b with
    | nil => simp [sames] at h
    | cons y b =>
      simp only [sames, cond_eq] at h
      split at h
      · rename_i hxy
        obtain ⟨u, v', rfl, hu, hv⟩ := hv
        simp only [depthVs] at hn
        simp only [List.zip_cons_cons, List.all_cons, Bool.and_eq_true]
        exact ⟨sameBits_self x y u hxy hu n (by omega), samesBits_self a b v' h hv n (by omega)⟩
      · simp at h
end
end
end Go.Abs

namespace Go.Abs
set_option linter.unusedVariables false
set_option linter.unusedSimpArgs false
section
variable {A : AProg} {P : Program} {L : List (PTree AObj)} {E : Keep} {f : Inj} {h h' : Heap} {nx : Pos} {w : World}

theorem allOne_depth : ∀ {l : List AVal}, allOne l = true → depthVs l = 0 := by
  intro l
  induction l with
  | nil => intro _; rfl
  | cons a l ih =>
    intro h
    simp only [allOne, cond_eq] at h
    split at h
    · rename_i ha
      have : depthV a = 0 := by cases a <;> first | rfl | simp [AVal.one] at ha
      simp [depthVs, ih h, this]
    · simp at h
theorem keyFlat_depth {k : AVal} (h : keyFlat k = true) : depthV k ≤ 1 := by
  cases k <;> simp [depthV]
  rename_i cs
  simp only [keyFlat] at h
  rw [allOne_depth h]

theorem modify_eq_set {α : Type} {l : List α} {j : Nat} {x : α} (h : l[j]? = some x) (F : α → α) : l.modify j F = l.set j (F x) := by
  apply List.ext_getElem?
  intro i
  rw [List.getElem?_modify, List.getElem?_set]
  by_cases e : j = i
  · subst e
    have := (List.getElem?_eq_some_iff.1 h).1
    have hx := (List.getElem?_eq_some_iff.1 h).2
    simp [h, this, hx]
  · simp [e]

theorem findA_same {t : TypeId} {k : AVal} : ∀ {es : List AEntry} {i j : Nat} {e : AEntry}, findA A L h t k es i = some (some (j, e)) → same e.k k = true := by
  intro es
  induction es with
  | nil => intro i j e hr; simp [findA] at hr
  | cons a es ih =>
    intro i j e hr
    simp only [findA] at hr
    split at hr
    · rw [cond_eq] at hr
      split at hr
      · rename_i hs; simp at hr; obtain ⟨_, rfl⟩ := hr; exact hs
      · simp at hr
    · exact ih hr
    · simp at hr

theorem updateA_ok (hA : A.Ok P) (hH : HRel E f (hget L h) h.next w) {t : TypeId} {m k v : AVal} {vm vk vv : Value} (hm : VRel f m vm) (hk : VRel f k vk) (hv : VRel f v vv) (hr : updateA A L h t m k v = some h') :
    ∃ w', (Instr.mapUpdate t vm vk vv).run P w = .ok () w' ∧ HRel E f (hget L h') h'.next w' := by
  unfold updateA at hr
  split at hr
  · rename_i kt et b hkt
    have hu := keyType_ok hA hkt
    rw [cond_eq] at hr
    split at hr
    · rename_i hfine
      split at hr
      · rename_i es c hma
        obtain ⟨p, hp, rfl⟩ := hm
        obtain ⟨p', ces, hg, hp', hw, hes, hborn⟩ := map_of hH hma
        rw [hp] at hp'; cases hp'
        have hck := keyFine_ok (w := w) (P := P) hA false 40 kt k hfine vk hk 10000 (by omega)
        split at hr
        · rename_i i e hfd
          obtain ⟨r', h1, h2, h3⟩ := findKey_ok (P := P) hA hH hk hfine hes hfd
          rw [cond_eq] at hr
          split at hr
          · rename_i hflat
            simp at hr; subst hr
            obtain ⟨j, ce, rfl, he, hce, rfl, rv, rk, rb⟩ := h2
            obtain ⟨vk', rk', rfl⟩ := h3 _ _ rfl
            have hce' : ces[j]? = some ce := by simpa using hce
            have hkey : (Instr.keyThatStays ce.key vk').run P w = .ok vk' w := by
              have hsm := findA_same hfd
              have hsame : ce.key = vk' := same_ok _ _ _ _ hsm rk hk
              rw [hsame]
              have := sameBits_self e.k k vk' hsm rk' 10000 (by have := keyFlat_depth hflat; omega)
              simp [Instr.keyThatStays, this]
            refine ⟨{ w with heap := w.heap.setIfInBounds p.block (.map (ces.modify j fun e => { e with key := vk', val := vv }) c) }, ?_, ?_⟩
            · simp only [Instr.mapUpdate, Sem.run_bind, run_und hA hu, Result.andThen_ok, run_getObj_map hw, hck, h1]
              simp [hce', hkey, run_setObj_map hw]
            · rw [hget_set, next_set]
              refine hH.put hg rfl rfl hp hw ⟨_, rfl, ?_, ?_⟩
              · rw [setNth_eq]
                have e1 : (ces.modify j fun e => { e with key := vk', val := vv }).toList = ces.toList.set j { ce with key := vk', val := vv } := by
                  rw [Array.toList_modify]
                  exact modify_eq_set hce _
                rw [e1]
                simp only [Nat.zero_add]
                exact EsRel.set (e := ⟨k, v, e.born⟩) (ce := { ce with key := vk', val := vv }) hk hv rb j hes
              · intro x hx
                rw [setNth_eq] at hx
                rcases List.mem_or_eq_of_mem_set hx with hx | rfl
                · exact hborn x hx
                · exact hborn e (List.mem_of_getElem? he)
          · simp at hr
        · rename_i hfd
          obtain ⟨r', h1, h2, h3⟩ := findKey_ok (P := P) hA hH hk hfine hes hfd
          rw [FRel] at h2; subst h2
          simp at hr; subst hr
          refine ⟨{ w with heap := w.heap.setIfInBounds p.block (.map (ces.push { key := vk, val := vv, born := c }) (c + 1)) }, ?_, ?_⟩
          · simp only [Instr.mapUpdate, Sem.run_bind, run_und hA hu, Result.andThen_ok, run_getObj_map hw, hck, h1]
            simp [run_setObj_map hw]
          · rw [hget_set, next_set]
            refine hH.put hg rfl rfl hp hw ⟨_, rfl, ?_, ?_⟩
            · rw [Array.toList_push]; exact EsRel.snoc (e := ⟨k, v, c⟩) (ce := { key := vk, val := vv, born := c }) hk hv rfl hes
            · intro x hx
              simp at hx
              rcases hx with hx | rfl
              · have := hborn x hx; show x.born < c + 1; omega
              · show c < c + 1; omega
        · simp at hr
      · simp at hr
    · simp at hr
  · simp at hr
theorem deleteA_ok (hA : A.Ok P) (hH : HRel E f (hget L h) h.next w) {t : TypeId} {m k : AVal} {vm vk : Value} (hm : VRel f m vm) (hk : VRel f k vk) (hr : deleteA A L h t m k = some h') (ts : Array TypeId) (ht : ts[0]? = some t) (ty : TypeId) :
    ∃ w', (Builtin.delete_ ts ty #[vm, vk]).run P w = .ok (.tuple #[]) w' ∧ HRel E f (hget L h') h'.next w' := by
  unfold deleteA at hr
  split at hr
  · rename_i kt et b hkt
    have hu := keyType_ok hA hkt
    rw [cond_eq] at hr
    split at hr
    · rename_i hfine
      split at hr
      · rename_i es c hma
        obtain ⟨p, hp, rfl⟩ := hm
        obtain ⟨p', ces, hg, hp', hw, hes, hborn⟩ := map_of hH hma
        rw [hp] at hp'; cases hp'
        have hck := fun e => keyFine_ok (w := w) (P := P) hA e 40 kt k hfine vk hk 10000 (by omega)
        split at hr
        · rename_i i e hfd
          obtain ⟨r', h1, h2, h3⟩ := findKey_ok (P := P) hA hH hk hfine hes hfd
          simp at hr; subst hr
          obtain ⟨j, ce, rfl, he, hce, rfl, rv, rk, rb⟩ := h2
          refine ⟨{ w with heap := w.heap.setIfInBounds p.block (.map (ces.eraseIdxIfInBounds j) c) }, ?_, ?_⟩
          · simp only [Builtin.delete_, Sem.run_bind]
            simp [ht, run_und hA hu, run_getObj_map hw, hck, h1, run_setObj_map hw]
          · rw [hget_set, next_set]
            refine hH.put hg rfl rfl hp hw ⟨_, rfl, ?_, ?_⟩
            · rw [delNth_eq]
              have e1 : (ces.eraseIdxIfInBounds j).toList = ces.toList.eraseIdx j := by simp
              rw [e1]
              simp only [Nat.zero_add]
              exact EsRel.erase j hes
            · intro x hx
              rw [delNth_eq] at hx
              exact hborn x (List.mem_of_mem_eraseIdx hx)
        · rename_i hfd
          obtain ⟨r', h1, h2, h3⟩ := findKey_ok (P := P) hA hH hk hfine hes hfd
          rw [FRel] at h2; subst h2
          simp at hr; subst hr
          refine ⟨{ w with heap := w.heap.setIfInBounds p.block (.map ces c) }, ?_, ?_⟩
          · simp only [Builtin.delete_, Sem.run_bind]
            simp [ht, run_und hA hu, run_getObj_map hw, hck, h1, run_setObj_map hw]
          · have := hH.put hg rfl rfl hp hw (o' := .map es c) (ob' := .map ces c) ⟨_, rfl, hes, hborn⟩
            refine this.less ?_ (Nat.le_refl _)
            intro i o hi hl
            unfold upd
            split
            · subst i; rw [hg] at hi; exact hi
            · exact hi
        · simp at hr
      · simp at hr
    · simp at hr
  · simp at hr

/-! ## iterators -/
theorem wRange_ok (hA : A.Ok P) (hH : HRel E f (hget L h) h.next w) {e : Env} {ρ : Operand → Value} {o : Oper} {t : TypeId} {x : Operand} (ho : o.op = .range t x) (henv : OpEnv f e ρ o.op.operands.toList) {v : AVal}
    (hr : wRange A L e h t x = .val v h') : VOut E f L ((execOp ρ o).run P w) v h' := by
  have hnew : ∀ (ao : AObj) (ob : Obj), (∀ f' q, f.le f' → q.base = 0 → ORel f' q ao ob) → HRel E (f.upd h.next ⟨w.heap.size, 0, 0⟩) (hget L (h.new ao)) (h.new ao).next (w.alloc ob) := by
    intro ao ob hrel
    rw [hget_new, next_new]
    exact hH.new rfl ⟨rfl, rfl, rfl⟩ (hrel _ _ (Inj.le_upd (hH.next_none (Nat.le_refl _))) rfl)
  have hle := Inj.le_upd (p := ⟨w.heap.size, 0, 0⟩) (hH.next_none (Nat.le_refl h.next.toNat))
  unfold wRange at hr
  split at hr
  · rename_i s hu hx
    simp at hr; obtain ⟨rfl, rfl⟩ := hr
    rw [ho] at henv
    obtain ⟨bs, e1, rfl⟩ := henv x (by simp [Op.operands]) _ hx
    refine ⟨_, _, .pointer (some ⟨w.heap.size, 0, none⟩), _, ?_, .inl rfl, hle, ⟨_, Inj.upd_same, rfl⟩, hnew _ (.stringIter bs 0) fun f' q _ hq => ⟨hq, bs, rfl, rfl⟩⟩
    simp [execOp, ho, Instr.range, run_und hA hu, e1]
  · rename_i kt et hu hx
    simp at hr; obtain ⟨rfl, rfl⟩ := hr
    rw [ho] at henv
    have e1 := henv x (by simp [Op.operands]) _ hx
    rw [VRel] at e1
    refine ⟨_, _, .pointer (some ⟨w.heap.size, 0, none⟩), _, ?_, .inl rfl, hle, ⟨_, Inj.upd_same, rfl⟩, hnew _ (.mapIter none 0 #[] 0) fun f' q _ hq => ⟨hq, _, _, _, rfl⟩⟩
    simp [execOp, ho, Instr.range, run_und hA hu, e1]
  · rename_i kt et b hu hx
    split at hr
    · rename_i es c hma
      simp at hr; obtain ⟨rfl, rfl⟩ := hr
      rw [ho] at henv
      obtain ⟨p, hp, e1⟩ := henv x (by simp [Op.operands]) _ hx
      obtain ⟨p', ces, hg, hp', hw, hes, hborn⟩ := map_of hH hma
      rw [hp] at hp'; cases hp'
      refine ⟨_, _, .pointer (some ⟨w.heap.size, 0, none⟩), _, ?_, .inl rfl, hle, ⟨_, Inj.upd_same, rfl⟩, hnew _ (.mapIter (some p.block) c #[] c) fun f' q hf' hq => ⟨hq, p, #[], hf' _ _ hp, rfl, rfl⟩⟩
      simp [execOp, ho, Instr.range, run_und hA hu, e1, run_getObj_map hw]
    · simp at hr
  · simp at hr

theorem utf8_ascii (s : ByteArray) (i : Nat) {c : UInt8} (h : s[i]? = some c) (hc : c.toNat < 128) : Utf8.decode s i = (c.toNat, 1) := by
  have hlt : i < s.size := by
    rcases Nat.lt_or_ge i s.size with h' | h'
    · exact h'
    · rw [getElem?_neg s i (by omega)] at h; simp at h
  have hg : s.get! i = c := by
    rw [getElem?_pos s i hlt] at h
    simp at h
    rw [← h]
    show s.data[i]! = s.data[i]
    exact getElem!_pos s.data i hlt
  simp [Utf8.decode, hg, hc]

theorem memNat_iff (k : Nat) : ∀ (l : List Nat), memNat k l = true ↔ k ∈ l := by
  intro l
  induction l with
  | nil => simp [memNat]
  | cons x l ih =>
    simp only [memNat, cond_eq]
    by_cases e : k = x
    · subst e; simp
    · have : Nat.beq k x = false := by cases hb : Nat.beq k x with | false => rfl | true => exact absurd (Nat.eq_of_beq_eq_true hb) e
      simp [this, ih, e]

theorem unseen_rel {seen : List Nat} {sn : Array Nat} (hsn : sn.toList.reverse = seen) : ∀ {es : List AEntry} {l : List MapEntry}, EsRel f es l → EsRel f (unseen seen es) (l.filter fun e => !sn.contains e.born) := by
  intro es
  induction es with
  | nil => intro l h; rw [EsRel] at h; subst h; exact rfl
  | cons a es ih =>
    intro l h
    obtain ⟨x, l', rfl, ⟨r1, r2, r3⟩, h⟩ := h
    have hc : sn.contains x.born = memNat a.born seen := by
      rw [Bool.eq_iff_iff, memNat_iff, ← hsn, r3]; simp
    simp only [unseen, cond_eq, List.filter_cons, hc]
    cases memNat a.born seen
    · simp only [Bool.false_eq_true, if_false, Bool.not_false, if_true]; exact ⟨x, _, rfl, ⟨r1, r2, r3⟩, ih h⟩
    · simp only [if_true, Bool.not_true, Bool.false_eq_true, if_false]; exact ih h
theorem unseen_born {seen : List Nat} {c : Nat} : ∀ {es : List AEntry}, (∀ e ∈ es, e.born < c) → ∀ e ∈ unseen seen es, e.born < c := by
  intro es
  induction es with
  | nil => intro _ e h; simp [unseen] at h
  | cons a es ih =>
    intro hb e he
    simp only [unseen, cond_eq] at he
    split at he
    · exact ih (fun x hx => hb x (by simp [hx])) e he
    · simp at he
      rcases he with rfl | he
      · exact hb _ (by simp)
      · exact ih (fun x hx => hb x (by simp [hx])) e he
theorem EsRel.born {c : Nat} : ∀ {es : List AEntry} {l : List MapEntry}, EsRel f es l → (∀ e ∈ es, e.born < c) → ∀ x ∈ l, x.born < c := by
  intro es
  induction es with
  | nil => intro l h _ x hx; rw [EsRel] at h; subst h; simp at hx
  | cons a es ih =>
    intro l h hb x hx
    obtain ⟨y, l', rfl, ⟨_, _, r3⟩, h⟩ := h
    simp at hx
    rcases hx with rfl | hx
    · rw [r3]; exact hb a (by simp)
    · exact ih h (fun z hz => hb z (by simp [hz])) x hx

/-- what a step over a map comes to -/
theorem run_next_map {r m c : Nat} {sn : Array Nat} {ces : Array MapEntry} (hr : w.heap[r]? = some (.mapIter (some m) c sn c)) (hm : w.heap[m]? = some (.map ces c)) (hb : ∀ x ∈ ces.toList, x.born < c) (ty : TypeId) (sp : Option Nat) :
    (∀ (hl : (ces.toList.filter fun e => !sn.contains e.born) = []), (Instr.next (.pointer (some ⟨r, 0, sp⟩)) false ty).run P w = .ok (.tuple #[.bool false]) w) ∧
    ((ces.toList.filter fun e => !sn.contains e.born) ≠ [] → ∃ (i : Nat) (x : MapEntry) (d : Nat), (ces.toList.filter fun e => !sn.contains e.born)[i]? = some x ∧
      (Instr.next (.pointer (some ⟨r, 0, sp⟩)) false ty).run P w = .ok (.tuple #[.bool true, x.key, x.val]) { w with heap := w.heap.setIfInBounds r (.mapIter (some m) c (sn.push x.born) c), drawn := d }) := by
  have g1 : (getObj r).run P w = .ok (.mapIter (some m) c sn c) w := by simp [getObj, Sem.run, hr]
  have g2 := run_getObj_map (P := P) hm
  have hguard : (!sn.isEmpty && !ces.isEmpty && ces.all (fun x => decide (x.born ≥ c))) = false := by
    cases hces : ces.isEmpty
    · have : ces.all (fun x => decide (x.born ≥ c)) = false := by
        rw [← Array.all_toList]
        cases hl : ces.toList with
        | nil => simp at hl; simp [hl] at hces
        | cons x l => have := hb x (by rw [hl]; simp); simp; omega
      simp [this]
    · simp
  have hleft : ces.filter (fun e => !sn.contains e.born) = (ces.toList.filter fun e => !sn.contains e.born).toArray := by
    apply Array.ext'; simp
  generalize hL : (ces.toList.filter fun e => !sn.contains e.born) = left at *
  have hold : (left.toArray.filter fun e => decide (e.born < c)) = left.toArray := by
    apply Array.ext'
    simp only [Array.toList_filter]
    rw [List.filter_eq_self]
    intro x hx
    have : x ∈ ces.toList := by rw [← hL] at hx; exact (List.mem_filter.1 hx).1
    simpa using hb x this
  have hnew : (left.toArray.filter fun e => decide (e.born ≥ c)) = #[] := by
    apply Array.ext'
    simp only [Array.toList_filter]
    rw [List.filter_eq_nil_iff.2]
    intro x hx
    have : x ∈ ces.toList := by rw [← hL] at hx; exact (List.mem_filter.1 hx).1
    have := hb x this
    simp; omega
  refine ⟨?_, ?_⟩
  · rintro rfl
    simp only [Instr.next, Sem.run_bind, g1, g2, Result.andThen_ok, hguard, hleft]
    simp [Question.forced]
  · intro hne
    have hpos : 0 < left.length := by cases left <;> simp_all
    have hemp : left.toArray.isEmpty = false := by cases left <;> simp_all
    obtain ⟨i, d, hi, hch⟩ : ∃ i d, i < left.length ∧ (choose (.mapNext left.length)).run P w = .ok i { w with drawn := d } := by
      rw [run_choose]
      by_cases h1 : left.length ≤ 1
      · exact ⟨0, w.drawn, hpos, by simp [Question.forced, h1]⟩
      · exact ⟨_, w.drawn + 1, Nat.mod_lt _ hpos, by simp [Question.forced, h1, Question.cut]; rfl⟩
    refine ⟨i, left[i], d, by simp [hi], ?_⟩
    have hr' : ({ w with drawn := d } : World).heap[r]? = some (.mapIter (some m) c sn c) := hr
    have hcand : ((if left.toArray.isEmpty = true then #[none] else #[]) ++ (left.toArray ++ #[]).map some : Array (Option MapEntry)) = left.toArray.map some := by
      simp [hemp]
    simp only [Instr.next, Sem.run_bind, g1, g2, Result.andThen_ok, hguard, hleft, hold, hnew, Bool.false_eq_true, if_false]
    rw [hcand]
    have hsz : (left.toArray.map some).size = left.length := by simp
    simp only [Sem.run_pure, Result.andThen_ok, hsz]
    rw [hch]
    have hget : (left.toArray.map some)[i]? = some (some left[i]) := by simp [hi]
    simp only [Result.andThen_ok, hget, Sem.run_bind]
    simp [setObj, Sem.run, hr]

theorem wNext_val_ok (hA : A.Ok P) (hH : HRel E f (hget L h) h.next w) {e : Env} {ρ : Operand → Value} {o : Oper} {it : Operand} {isS : Bool} (ho : o.op = .next it isS) (henv : OpEnv f e ρ o.op.operands.toList) {v : AVal}
    (hr : wNext L e h it isS = .val v h') : VOut E f L ((execOp ρ o).run P w) v h' := by
  unfold wNext at hr
  split at hr
  · rename_i r ha
    rw [ho] at henv
    obtain ⟨p, hp, e1⟩ := henv it (by simp [Op.operands]) _ ha
    split at hr
    · rename_i s pos hg
      obtain ⟨p', ob, hp', hw, hb0, bs, rfl, rfl⟩ := hH.objs _ _ hg rfl
      rw [hp] at hp'; cases hp'
      have g1 : (getObj p.block).run P w = .ok (.stringIter bs pos) w := by simp [getObj, Sem.run, hw]
      rw [dropN_eq] at hr
      have hsz : (bytesOf bs).length = bs.size := by simp [bytesOf]
      split at hr
      · rename_i hd
        simp at hr; obtain ⟨rfl, rfl⟩ := hr
        have hge : bs.size ≤ pos := by
          have := congrArg List.length hd
          simp [hsz] at this; omega
        have : (execOp ρ o).run P w = .ok (.value (.tuple #[.bool false])) w := by
          simp [execOp, ho, e1, hb0, Instr.next, g1]; omega
        rw [this]
        exact VOut.value ⟨_, rfl, ⟨_, _, rfl, rfl, rfl⟩⟩ hH
      · rename_i c rest hd
        rw [cond_eq] at hr
        split at hr
        · rename_i hc
          simp at hr; obtain ⟨rfl, rfl⟩ := hr
          have hc : c < 128 := by have h := hc; simp [Nat.blt] at h; omega
          have hlt : pos < bs.size := by
            have := congrArg List.length hd
            simp [hsz] at this; omega
          have hget : (bytesOf bs)[pos]? = some c := by
            have := congrArg (fun l => l[0]?) hd
            simpa using this
          obtain ⟨u, hu, rfl⟩ := bytesOf_get hget
          have hdec := utf8_ascii bs pos hu hc
          have hput := hH.put hg rfl rfl hp hw (o' := .strIter (bytesOf bs) (pos + 1)) (ob' := .stringIter bs (pos + 1)) ⟨hb0, bs, rfl, rfl⟩
          refine ⟨f, _, .tuple #[.bool true, .int .i64 pos, .int .i32 u.toNat], { w with heap := w.heap.setIfInBounds p.block (.stringIter bs (pos + 1)) }, ?_, .inl rfl, f.le_refl, ?_, ?_⟩
          · simp [execOp, ho, e1, hb0, Instr.next, g1, hlt, hdec, setObj, Sem.run, hw, goInt]
          · exact ⟨_, rfl, ⟨_, _, rfl, rfl, ⟨_, _, rfl, rfl, ⟨_, _, rfl, rfl, rfl⟩⟩⟩⟩
          · rw [hget_set, next_set]; exact hput
        · simp at hr
    · rename_i since seen hg
      obtain ⟨p', ob, hp', hw, hb0, a1, a2, a3, rfl⟩ := hH.objs _ _ hg rfl
      rw [hp] at hp'; cases hp'
      have g1 : (getObj p.block).run P w = .ok (.mapIter none a1 a2 a3) w := by simp [getObj, Sem.run, hw]
      simp at hr; obtain ⟨rfl, rfl⟩ := hr
      have : (execOp ρ o).run P w = .ok (.value (.tuple #[.bool false])) w := by
        simp [execOp, ho, e1, hb0, Instr.next, g1]
      rw [this]
      exact VOut.value ⟨_, rfl, ⟨_, _, rfl, rfl, rfl⟩⟩ hH
    · rename_i m since seen hg
      obtain ⟨p', ob, hp', hw, hb0, q, sn, hq, rfl, hsn⟩ := hH.objs _ _ hg rfl
      rw [hp] at hp'; cases hp'
      split at hr
      · rename_i es c hma
        obtain ⟨q', ces, hg', hq', hw', hes, hborn⟩ := map_of hH hma
        rw [hq] at hq'; cases hq'
        rw [cond_eq] at hr
        split at hr
        · rename_i hc
          have hc : c = since := Nat.eq_of_beq_eq_true hc
          subst hc
          split at hr
          · rename_i hun
            simp at hr; obtain ⟨rfl, rfl⟩ := hr
            have hrel := unseen_rel hsn hes
            rw [hun] at hrel
            rw [EsRel] at hrel
            have := (run_next_map (P := P) hw hw' (hes.born hborn) o.type none).1 hrel
            have : (execOp ρ o).run P w = .ok (.value (.tuple #[.bool false])) w := by
              simp [execOp, ho, e1, hb0, this]
            rw [this]
            exact VOut.value ⟨_, rfl, ⟨_, _, rfl, rfl, rfl⟩⟩ hH
          · simp at hr
        · simp at hr
      · simp at hr
    · simp at hr
  · simp at hr

theorem wNext_next_ok (hA : A.Ok P) (hH : HRel E f (hget L h) h.next w) {e : Env} {ρ : Operand → Value} {o : Oper} {it : Operand} {isS : Bool} (ho : o.op = .next it isS) (henv : OpEnv f e ρ o.op.operands.toList)
    {r m : Pos} {since : Nat} {seen : List Nat} {left : List AEntry} (hr : wNext L e h it isS = .next r m since seen left) :
    ∃ a v w', a ∈ left ∧ (execOp ρ o).run P w = .ok (.value v) w' ∧ VRel f (.tuple [.bool true, a.k, a.v]) v ∧ HRel E f (hget L (h.set r (.mapIter (some m) since (a.born :: seen)))) h.next w' := by
  unfold wNext at hr
  split at hr
  · rename_i r' ha
    rw [ho] at henv
    obtain ⟨p, hp, e1⟩ := henv it (by simp [Op.operands]) _ ha
    split at hr
    · split at hr
      · simp at hr
      · rw [cond_eq] at hr; split at hr <;> simp at hr
    · simp at hr
    · rename_i m' since' seen' hg
      obtain ⟨p', ob, hp', hw, hb0, q, sn, hq, rfl, hsn⟩ := hH.objs _ _ hg rfl
      rw [hp] at hp'; cases hp'
      split at hr
      · rename_i es c hma
        obtain ⟨q', ces, hg', hq', hw', hes, hborn⟩ := map_of hH hma
        rw [hq] at hq'; cases hq'
        rw [cond_eq] at hr
        split at hr
        · rename_i hc
          have hc : c = since' := Nat.eq_of_beq_eq_true hc
          subst hc
          split at hr
          · simp at hr
          · rename_i x l hun
            simp at hr
            obtain ⟨rfl, rfl, rfl, rfl, rfl⟩ := hr
            have hrel := unseen_rel hsn hes
            have hne : (ces.toList.filter fun e => !sn.contains e.born) ≠ [] := by
              intro e; rw [e] at hrel
              have := hrel.length
              rw [hun] at this; simp at this
            obtain ⟨i, y, d, hi, hrun⟩ := (run_next_map (P := P) hw hw' (hes.born hborn) o.type none).2 hne
            have hlt : i < (unseen seen' es).length := by
              rw [hrel.length]; exact (List.getElem?_eq_some_iff.1 hi).1
            obtain ⟨ce, hce, r1, r2, r3⟩ := hrel.get i _ (List.getElem?_eq_getElem hlt)
            rw [hi] at hce; cases hce
            refine ⟨(unseen seen' es)[i], .tuple #[.bool true, y.key, y.val], { w with heap := w.heap.setIfInBounds p.block (.mapIter (some q.block) c (sn.push y.born) c), drawn := d }, by rw [← hun]; exact List.getElem_mem hlt, ?_, ⟨_, rfl, ⟨_, _, rfl, rfl, ⟨_, _, rfl, r1, ⟨_, _, rfl, r2, rfl⟩⟩⟩⟩, ?_⟩
            · simp [execOp, ho, e1, hb0, hrun]
            · rw [hget_set]
              have hput := hH.put hg rfl rfl hp hw (o' := .mapIter (some m') c ((unseen seen' es)[i].born :: seen')) (ob' := .mapIter (some q.block) c (sn.push y.born) c)
                ⟨hb0, q, _, hq, rfl, by rw [Array.toList_push, List.reverse_append, hsn, r3]; rfl⟩
              exact hput.same rfl ⟨rfl, rfl, rfl⟩
        · simp at hr
      · simp at hr
    · simp at hr
  · simp at hr
end
end Go.Abs

