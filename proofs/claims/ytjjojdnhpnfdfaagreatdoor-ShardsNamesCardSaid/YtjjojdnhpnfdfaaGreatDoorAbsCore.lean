import Derived.RangeFuncLeaves
import Derived.OrdersIn
import Derived.Test.YtjjojdnhpnfdfaaGreatDoorAbsTr
set_option linter.all false
/-
  THE ABSTRACT RUN. A big-step evaluator of the model's code over an abstract heap: no tape, no capacity that was drawn, no order that was drawn. AbsRel.lean and what stands on it prove: where it answers, every run of the model from a related world returns, with related results. Nothing here is trusted.
-/
namespace Go.Ab
open Go
noncomputable section

/-! ### Values -/
inductive AV where
  | lit (v : Value)
  | ptr (b off : Nat)
  | slice (b off len cap sz : Nat)   -- sz = 0: the capacity is cap; else: cap at least, elements of sz cells
  | mapr (r : Nat)
  | func (fn : Fn) (first captured : List AV)
  | iface (t : TypeId) (v : AV)
  | agg (cs : List AV)
  | tuple (vs : List AV)
  deriving Inhabited

mutual
/-- The one value of the model's that it stands for, if it holds no address. -/
def AV.conc : AV → Option Value
  | .lit v => some v
  | .iface t v => match v.conc with
    | some x => some (.iface t x)
    | none => none
  | .agg cs => match concL cs with
    | some l => some (.agg l.toArray)
    | none => none
  | .tuple cs => match concL cs with
    | some l => some (.tuple l.toArray)
    | none => none
  | _ => none
def concL : List AV → Option (List Value)
  | [] => some []
  | a :: r => match a.conc with
    | some v => match concL r with
      | some l => some (v :: l)
      | none => none
    | none => none
end

def AV.undef : AV := .lit (.tuple #[])

def AV.cells : AV → List AV
  | .agg cs => cs
  | .lit (.agg cs) => cs.toList.map .lit
  | v => [v]

/-- May a value be a cell's? -/
def AV.isCell : AV → Bool
  | .agg _ | .tuple _ | .lit (.agg _) | .lit (.tuple _) => false
  | _ => true

def AV.asAgg : AV → Option (List AV)
  | .agg cs => some cs
  | .lit (.agg cs) => some (cs.toList.map .lit)
  | _ => none

def AV.bool? : AV → Option Bool
  | .lit (.bool b) => some b
  | _ => none

def AV.int? : AV → Option Int
  | .lit (.int _ n) => some n
  | _ => none

def AV.ptr? : AV → Option (Nat × Nat)
  | .ptr b off => some (b, off)
  | _ => none

/-! ### Memory -/
structure Tm where
  n : Nat
  t : Tr AV

def Tm.val (tm : Tm) (t : Tmp) : AV := @Tm.rec (fun _ => AV) (fun _ tr => orec .undef (fun v => v) (tr.get t)) tm

def Tm.put (d : Tmp) (v : AV) (tm : Tm) : Option Tm := @Tm.rec (fun _ => Option Tm) (fun n tr => sel (Nat.blt d n) (some ⟨n, tr.set d v⟩) (no "tmp")) tm

def Tm.putO (dst : Option Tmp) (v : AV) (tm : Tm) : Option Tm := orec (some tm) (fun d => tm.put d v) dst

inductive AObj where
  | cells (t : Tr AV) (z : List AV) (n fz : Nat) (wr ex : Bool) (el : TypeId)   -- fz = 0: nothing is frozen; wr: it may be written; ex: the whole block, no cell more; el: its elements' type
  | map (es : List (Value × AV × Nat)) (clock : Nat)
  | strIter (s : ByteArray) (pos : Nat)
  | mapIter (m : Option Nat) (since : Nat) (seen : List Nat) (stepped : Nat)
  | loop (state : LoopState) (pending : Option Code) (tm : Tm) (params : Array Tmp) (assign body : Code) (defers : Nat)
  | deferred (shut : Bool)
  | dead

structure AW where
  heap : Tr AObj
  next : Nat

def AW.put (W : AW) (b : Nat) (o : AObj) : AW := @AW.rec (fun _ => AW) (fun h n => ⟨h.set b o, n⟩) W
/-- A new block: its number is W.next. -/
def AW.new (W : AW) (o : AObj) : AW := @AW.rec (fun _ => AW) (fun h n => ⟨h.set n o, Nat.add n 1⟩) W
def AW.at (W : AW) (b : Nat) : Option AObj := @AW.rec (fun _ => Option AObj) (fun h _ => h.get b) W
def AW.nxt (W : AW) : Nat := @AW.rec (fun _ => Nat) (fun _ n => n) W

structure Cells where
  t : Tr AV
  z : List AV
  n : Nat
  fz : Nat
  wr : Bool
  ex : Bool
  el : TypeId

def AObj.cells? : AObj → Option Cells
  | .cells t z n fz wr ex el => some ⟨t, z, n, fz, wr, ex, el⟩
  | _ => none

def Cells.at (c : Cells) (i : Nat) : Option AV := orec (nth c.z (Nat.mod i c.z.length)) (fun v => some v) (c.t.get i)

def Cells.readN (c : Cells) (i n : Nat) : Option (List AV) :=
  @Nat.rec (fun _ => Nat → Option (List AV)) (fun _ => some []) (fun _ p i => ob (c.at i) fun v => ob (p (Nat.add i 1)) fun l => some (v :: l)) n i

def writeN (i : Nat) (l : List AV) (t : Tr AV) : Tr AV :=
  @List.rec AV (fun _ => Nat → Tr AV → Tr AV) (fun _ t => t) (fun v _ p i t => p (Nat.add i 1) (t.set i v)) l i t

def ofCells (el : TypeId) (l : List AV) : AObj := .cells .leaf l l.length 0 true true el

def AW.cells (W : AW) (b : Nat) : Option Cells := ob (W.at b) AObj.cells?

/-- Cells of a block. -/
def AW.read (W : AW) (b off n : Nat) : Option (List AV) :=
  ob (W.cells b) fun c => sel (Nat.ble (Nat.add off n) c.n) (c.readN off n) (no "read: out of the window")

def AW.read1 (W : AW) (b off : Nat) : Option AV :=
  ob (W.cells b) fun c => sel (Nat.blt off c.n) (c.at off) (no "read: out of the window")

def AW.write (W : AW) (b off : Nat) (l : List AV) : Option AW :=
  match l with
  | [] => some W
  | _ :: _ => ob (W.cells b) fun c =>
    sel (an c.wr (an (Nat.ble (Nat.add off l.length) c.n) (an (Nat.beq c.fz 0) (l.all AV.isCell))))
      (some (W.put b (.cells (writeN off l c.t) c.z c.n 0 true c.ex c.el))) (no "write: out of the window, frozen, or no cell")

/-! ### What a program's tables say -/
/-- The program's types and functions, found quickly. -/
def typesTr (P : Program) : Tr TypeInfo := Tr.ofList P.types.toList
def funcsTr (P : Program) : Tr Func := Tr.ofList P.funcs.toList
def infoO (P : Program) (t : TypeId) : Option TypeInfo := (typesTr P).get t
def funcO (P : Program) (f : FuncId) : Option Func := (funcsTr P).get f
def undO (P : Program) (t : TypeId) : Option TypeDesc :=
  ob (infoO P t) fun i => match i.desc with
    | .named _ u => ob (infoO P u) fun j => some j.desc
    | d => some d

def isAggO (P : Program) (t : TypeId) : Option Bool :=
  match undO P t with
  | some (.struct _) | some (.array _ _) => some true
  | some _ => some false
  | none => none

def sizeO (P : Program) (t : TypeId) : Option Nat :=
  match infoO P t with
  | some i => some i.size
  | none => none

def bytesO (P : Program) (t : TypeId) : Option Nat :=
  match infoO P t with
  | some i => some i.bytes
  | none => none

def zeroO (P : Program) (t : TypeId) : Option Value :=
  match infoO P t with
  | some i => i.zero
  | none => none

/-- How a variable of a type is read: none: in one cell; some n: in so many. -/
def loadKind (P : Program) (t : TypeId) : Option (Option Nat) := ob (isAggO P t) fun g => sel g (ob (sizeO P t) fun n => some (some n)) (some none)

/-- The cell at which a field lies. -/
def fieldOff (P : Program) (s : TypeId) (field : Nat) : Option Nat :=
  match undO P s with
  | some (.struct fields) => match fields.toList[field]? with
    | some f => match sizeO P f.type with
      | some (_ + 1) => some f.offset
      | _ => no "fieldAddr: size"
    | none => none
  | _ => no "fieldAddr"

def sliceElem (P : Program) (t : TypeId) : Option (TypeId × Nat) :=
  match undO P t with
  | some (.slice e) => match sizeO P e with
    | some n => some (e, n)
    | none => none
  | _ => none

def arrayElem (P : Program) (t : TypeId) : Option (Nat × TypeId × Nat) :=
  match undO P t with
  | some (.array len e) => match sizeO P e with
    | some n => some (len, e, n)
    | none => none
  | _ => none

def mapOf (P : Program) (t : TypeId) : Option (TypeId × TypeId) :=
  match undO P t with
  | some (.map k e) => some (k, e)
  | _ => none

/-! ### Runs that look at nothing -/
def pureRun {α : Type} (P : Program) : Sem α → Option α
  | .pure a => some a
  | .program k => pureRun P (k P)
  | .mark _ k => pureRun P k
  | _ => none

def litRun (P : Program) (s : Sem Value) : Option AV := ob (pureRun P s) fun v => some (.lit v)

/-! ### Operations -/
def aLoad (P : Program) (W : AW) (t : TypeId) (a : AV) : Option AV :=
  ob a.ptr? fun p => ob (loadKind P t) fun k =>
    orec (W.read1 p.1 p.2) (fun n => ob (W.read p.1 p.2 n) fun l => some (.agg l)) k

def aStore (P : Program) (W : AW) (t : TypeId) (a v : AV) : Option AW :=
  ob a.ptr? fun p => ob (sizeO P t) fun s => sel (Nat.beq v.cells.length s) (W.write p.1 p.2 v.cells) (no "store: size")

/-- The part of a row of cells. -/
def aPart (P : Program) (t : TypeId) (cs : List AV) (off : Nat) : Option AV :=
  ob (loadKind P t) fun k => orec (cs[off]?) (fun n => some (.agg ((cs.drop off).take n))) k

def fillL (place : Nat → Option (Nat × Nat)) : List AV → List (Nat × AV) → Option (List AV)
  | cells, [] => some cells
  | cells, (i, v) :: rest => ob (place i) fun p =>
    sel (an (Nat.beq v.cells.length p.2) (Nat.ble (Nat.add p.1 p.2) cells.length)) (fillL place (cells.take p.1 ++ (v.cells ++ cells.drop (Nat.add p.1 p.2))) rest) (no "fill")

def placesOf (P : Program) : List Field → Option (List (Nat × Nat))
  | [] => some []
  | f :: r => ob (sizeO P f.type) fun s => ob (placesOf P r) fun l => some ((f.offset, s) :: l)

def zeroCells (P : Program) (t : TypeId) : Option (List AV) := ob (zeroO P t) fun v => some (v.cells.toList.map .lit)

/-- Where the parts of a composite lie, and its zero cells. -/
def buildKind (P : Program) (t : TypeId) : Option (List AV × (Nat → Option (Nat × Nat))) :=
  ob (zeroCells P t) fun z => match undO P t with
    | some (.struct fields) => ob (placesOf P fields.toList) fun l => some (z, fun i => l[i]?)
    | some (.array _ elem) => ob (sizeO P elem) fun n => some (z, fun i => some (Nat.mul i n, n))
    | _ => no "build"

def aBuild (P : Program) (t : TypeId) (parts : List (Nat × AV)) : Option AV :=
  ob (buildKind P t) fun k => ob (fillL k.2 k.1 parts) fun l => some (.agg l)

/-- n cells, the zero value's over and over. -/
def zeroRow (z : List AV) (n : Nat) : List AV := (List.range n).map fun i => (z[i % z.length]?).getD .undef

def aBuildSlice (P : Program) (t : TypeId) (len : Nat) (parts : List (Nat × AV)) : Option (AObj × (Nat → AV)) :=
  ob (sliceElem P t) fun e => ob (zeroCells P e.1) fun z =>
    sel (an (Nat.ble (Nat.mul len e.2) 1000000) (an (Nat.blt 0 e.2) (Nat.beq z.length e.2)))
      (ob (fillL (fun i => some (Nat.mul i e.2, e.2)) (zeroRow z (Nat.mul len e.2)) parts) fun l => some (ofCells e.1 l, fun b => .slice b 0 len len 0)) (no "buildSlice")

def AV.nat? : AV → Option Nat
  | .lit (.int _ (.ofNat n)) => some n
  | _ => none

def aMakeSlice (P : Program) (t : TypeId) (len cap : AV) : Option (AObj × (Nat → AV)) :=
  ob (sliceElem P t) fun e => ob (bytesO P e.1) fun bytes => ob (zeroCells P e.1) fun z => ob len.nat? fun l => ob cap.nat? fun c =>
    sel (an (Nat.ble l c) (an (Nat.ble c 1000000000) (an (Nat.ble (Nat.mul bytes c) 100000000) (an (Nat.blt 0 e.2) (Nat.beq z.length e.2)))))
      (some (.cells .leaf z (Nat.mul c e.2) 0 true true e.1, fun b => .slice b 0 l c 0)) (no "makeSlice: size")

def boundO (x : Option AV) (most dflt : Nat) : Option Nat :=
  match x with
  | none => some dflt
  | some v => ob v.nat? fun i => sel (Nat.ble i most) (some i) (no "bound")

def aSliceStr (s : ByteArray) (low high max : Option AV) : Option AV :=
  match max with
  | some _ => none
  | none => ob (boundO high s.size s.size) fun h => ob (boundO low h 0) fun l => some (.lit (.string ⟨((s.data.toList.drop l).take (Nat.sub h l)).toArray⟩))

def szOf (max : Option AV) (sz : Nat) : Nat := match max with
  | some _ => 0
  | none => sz

def aSliceRow (size b off len cap sz : Nat) (low high max : Option AV) : Option AV :=
  sel (an max.isSome high.isNone) none (ob (boundO max cap cap) fun m => ob (boundO high m len) fun h => ob (boundO low h 0) fun l =>
    let sz' := szOf max sz
    sel (orr (Nat.beq sz' 0) (Nat.beq sz' size))
      (some (.slice b (sel (an (Nat.beq m l) (Nat.beq sz' 0)) off (Nat.add off (Nat.mul l size))) (Nat.sub h l) (Nat.sub m l) sz')) (no "slice: element"))

def aSlice (P : Program) (t : TypeId) (x : AV) (low high max : Option AV) : Option AV :=
  match undO P t, x with
  | some (.string), .lit (.string s) => aSliceStr s low high max
  | some (.slice _), .slice b off len cap sz => ob (sliceElem P t) fun e => aSliceRow e.2 b off len cap sz low high max
  | some (.slice _), .lit (.slice none 0 0) => ob (sliceElem P t) fun _ => sel (an max.isSome high.isNone) none
      (ob (boundO max 0 0) fun m => ob (boundO high m 0) fun h => ob (boundO low h 0) fun _ => some x)
  | some (.array _ _), .ptr b off => ob (arrayElem P t) fun e => aSliceRow e.2.2 b off e.1 e.1 0 low high max
  | _, _ => no "slice"

def aFieldAddr (P : Program) (s : TypeId) (a : AV) (field : Nat) : Option AV :=
  ob a.ptr? fun p => ob (fieldOff P s field) fun o => some (.ptr p.1 (Nat.add p.2 o))

/-- How the elements of a type are found: none: behind a slice; some n: in an array of n; the element's size. -/
def rowKind (P : Program) (t : TypeId) : Option (Option Nat × Nat) :=
  match undO P t with
  | some (.array len e) => ob (sizeO P e) fun n => some (some len, n)
  | some (.slice e) => ob (sizeO P e) fun n => some (none, n)
  | _ => no "indexAddr"

def AV.slice? : AV → Option (Nat × Nat × Nat)
  | .slice b off len _ _ => some (b, off, len)
  | _ => none

def aIndexAddr (P : Program) (t : TypeId) (x ix : AV) : Option AV :=
  ob ix.nat? fun i => ob (rowKind P t) fun k =>
    orec
      (ob x.slice? fun s => sel (Nat.blt i s.2.2) (some (.ptr s.1 (Nat.add s.2.1 (Nat.mul i k.2)))) (no "indexAddr: slice"))
      (fun len => ob x.ptr? fun p => sel (Nat.blt i len) (some (.ptr p.1 (Nat.add p.2 (Nat.mul i k.2)))) (no "indexAddr: array")) k.1

def aIndexStr (s : ByteArray) (i : Nat) : Option AV := ob (nth s.data.toList i) fun b => some (.lit (.int .u8 (.ofNat b.toNat)))

def aIndex (P : Program) (t : TypeId) (x ix : AV) : Option AV :=
  ob ix.nat? fun i => match undO P t with
    | some (.array len elem) => ob x.asAgg fun cs => ob (sizeO P elem) fun s => sel (Nat.blt i len) (aPart P elem cs (Nat.mul i s)) (no "index: array")
    | some .string => match x with
      | .lit (.string s) => aIndexStr s i
      | _ => no "index"
    | _ => no "index"

/-! ### Comparisons, arithmetic -/
def strOp (op : BinOp) (x y : List UInt8) : Option Value :=
  match op with
  | .add => sel (Nat.ble (x.length + y.length) 1000000000) (some (.string ⟨(x ++ y).toArray⟩)) none
  | .eql => some (.bool (x == y))
  | .neq => some (.bool !(x == y))
  | .lss => some (.bool (Op.bytesLess x y))
  | .leq => some (.bool (Op.bytesLess x y || x == y))
  | .gtr => some (.bool !(Op.bytesLess x y || x == y))
  | .geq => some (.bool !(Op.bytesLess x y))
  | _ => none

/-- A value against nil; two places in one block. -/
def aEq (P : Program) (t : TypeId) (x y : AV) : Option Bool :=
  match undO P t with
  | some (.pointer e) => match x, y with
    | .ptr a i, .ptr b j => match sizeO P e with
      | some (_ + 1) => sel (Nat.beq a b) (some (Nat.beq i j)) (no "two pointers")
      | _ => none
    | .ptr _ _, .lit (.pointer none) => some false
    | .lit (.pointer none), .ptr _ _ => some false
    | _, _ => none
  | some (.slice _) => match x, y with
    | .slice .., .lit (.slice none _ _) => some false
    | .lit (.slice none _ _), .slice .. => some false
    | _, _ => none
  | some (.map _ _) => match x, y with
    | .mapr _, .lit (.map none) => some false
    | .lit (.map none), .mapr _ => some false
    | _, _ => none
  | some (.func _ _ _) => match x, y with
    | .func .., .lit .nilFunc => some false
    | .lit .nilFunc, .func .. => some false
    | _, _ => none
  | some (.interface _) => match x, y with
    | .iface .., .lit .nilIface => some false
    | .lit .nilIface, .iface .. => some false
    | _, _ => none
  | _ => none

/-- The wrap of a number that is surely small needs no work. -/
def wrapF (k : IntKind) (n : Int) : Int :=
  match n with
  | .ofNat x => bif Nat.blt x 128 then n else k.wrap n
  | .negSucc _ => k.wrap n

def intLt : Int → Int → Bool
  | .ofNat a, .ofNat b => Nat.blt a b
  | .negSucc _, .ofNat _ => true
  | .ofNat _, .negSucc _ => false
  | .negSucc a, .negSucc b => Nat.blt b a

def intEq : Int → Int → Bool
  | .ofNat a, .ofNat b => Nat.beq a b
  | .negSucc a, .negSucc b => Nat.beq a b
  | _, _ => false

def kindNo : IntKind → Nat
  | .i8 => 0 | .i16 => 1 | .i32 => 2 | .i64 => 3 | .u8 => 4 | .u16 => 5 | .u32 => 6 | .u64 => 7

def kindEq (j k : IntKind) : Bool := Nat.beq (kindNo j) (kindNo k)

def intBin (P : Program) (op : BinOp) (t : TypeId) (j : IntKind) (a : Int) (k : IntKind) (b : Int) : Option AV :=
  match op with
  | .add => sel (kindEq j k) (some (.lit (.int j (wrapF j (a + b))))) none
  | .sub => sel (kindEq j k) (some (.lit (.int j (wrapF j (a - b))))) none
  | .mul => sel (kindEq j k) (some (.lit (.int j (wrapF j (a * b))))) none
  | .eql => sel (kindEq j k) (some (.lit (.bool (intEq a b)))) none
  | .neq => sel (kindEq j k) (some (.lit (.bool !(intEq a b)))) none
  | .lss => sel (kindEq j k) (some (.lit (.bool (intLt a b)))) none
  | .leq => sel (kindEq j k) (some (.lit (.bool !(intLt b a)))) none
  | .gtr => sel (kindEq j k) (some (.lit (.bool (intLt b a)))) none
  | .geq => sel (kindEq j k) (some (.lit (.bool !(intLt a b)))) none
  | op => litRun P (Go.binOp op t (.int j a) (.int k b))

def boolBin (P : Program) (op : BinOp) (t : TypeId) (a b : Bool) : Option AV :=
  match undO P t, op with
  | some .bool, .eql => some (.lit (.bool (a == b)))
  | some .bool, .neq => some (.lit (.bool !(a == b)))
  | _, _ => none

def strBin (op : BinOp) (a b : ByteArray) : Option AV :=
  match strOp op a.data.toList b.data.toList with
  | some v => some (.lit v)
  | none => no "strOp"

def otherBin (P : Program) (op : BinOp) (t : TypeId) (ox oy : Operand) (x y : AV) : Option AV :=
  match aEq P t x y with
  | some b => match op with
    | .eql => some (.lit (.bool b))
    | .neq => some (.lit (.bool !b))
    | _ => none
  | none => match x.conc, y.conc with
    | some a, some b => litRun P (do eqGuard op t ox oy a b; Go.binOp op t a b)
    | _, _ => no "bin"

def aBin (P : Program) (op : BinOp) (t : TypeId) (ox oy : Operand) (x y : AV) : Option AV :=
  match x, y with
  | .lit (.int j a), .lit (.int k b) => intBin P op t j a k b
  | .lit (.string a), .lit (.string b) => strBin op a b
  | .lit (.bool a), .lit (.bool b) => boolBin P op t a b
  | _, _ => otherBin P op t ox oy x y

/-! ### Maps: the keys hold no address -/
def asEntries (es : List (Value × AV × Nat)) : List MapEntry := es.map fun e => { key := e.1, val := undef, born := e.2.2 }

def aFind (P : Program) (empty : Bool) (kt : TypeId) (k : Value) (es : List (Value × AV × Nat)) : Option (Option Nat) :=
  ob (pureRun P (Instr.checkKey empty 10000 kt k)) fun _ => ob (pureRun P (Instr.findKey kt k (asEntries es))) fun r => some (r.map (·.1))

def mapRef (W : AW) (x : AV) : Option (List (Value × AV × Nat)) :=
  match x with
  | .mapr r => match W.at r with
    | some (.map es _) => some es
    | _ => no "no map"
  | .lit (.map none) => some []
  | _ => no "no map"

def aLookup (P : Program) (W : AW) (t : TypeId) (x ix : AV) (ok : Bool) : Option AV :=
  ob (mapOf P t) fun ke => ob ix.conc fun k => ob (mapRef W x) fun es => ob (aFind P es.isEmpty ke.1 k es) fun r =>
    match r with
    | none => ob (zeroO P ke.2) fun z => some (if ok then .tuple [.lit z, .lit (.bool false)] else .lit z)
    | some i => ob (es[i]?) fun e => some (if ok then .tuple [e.2.1, .lit (.bool true)] else e.2.1)

def aMapUpdate (P : Program) (W : AW) (t : TypeId) (m key val : AV) : Option AW :=
  match m with
  | .mapr r => match W.at r with
    | some (.map es clock) => ob (mapOf P t) fun ke => ob key.conc fun k => ob (aFind P false ke.1 k es) fun f =>
      match f with
      | none => some (W.put r (.map (es ++ [(k, val, clock)]) (clock + 1)))
      | some i => ob (es[i]?) fun e => ob (pureRun P (Instr.keyThatStays e.1 k)) fun k => some (W.put r (.map (es.set i (k, val, e.2.2)) clock))
    | _ => no "mapUpdate: no map"
  | _ => no "mapUpdate"

def aRange (P : Program) (W : AW) (t : TypeId) (x : AV) : Option (AV × AW) :=
  match undO P t, x with
  | some .string, .lit (.string s) => some (.ptr W.next 0, W.new (.strIter s 0))
  | some (.map _ _), .lit (.map none) => some (.ptr W.next 0, W.new (.mapIter none 0 [] 0))
  | some (.map _ _), .mapr r => match W.at r with
    | some (.map _ clock) => some (.ptr W.next 0, W.new (.mapIter (some r) clock [] clock))
    | _ => none
  | _, _ => no "range"

def aNext (W : AW) (it : AV) (isString : Bool) : Option (AV × AW) :=
  match it with
  | .ptr r 0 => match W.at r, isString with
    | some (.strIter s pos), true =>
      if pos < s.size then
        some (.tuple [.lit (.bool true), .lit (goInt pos), .lit (.int .i32 (Utf8.decode s pos).1)], W.put r (.strIter s (pos + (Utf8.decode s pos).2)))
      else some (.tuple [.lit (.bool false)], W)
    | some (.mapIter none _ _ _), false => some (.tuple [.lit (.bool false)], W)
    | some (.mapIter (some m) since seen last), false => match W.at m with
      | some (.map es clock) =>
        if !seen.isEmpty && !es.isEmpty && es.all (fun e => decide (e.2.2 ≥ last)) then no "next: all gone" else
        match es.filter (fun e => !seen.contains e.2.2) with
        | [] => some (.tuple [.lit (.bool false)], W)
        | [e] => if e.2.2 < since then some (.tuple [.lit (.bool true), .lit e.1, e.2.1], W.put r (.mapIter (some m) since (seen ++ [e.2.2]) clock)) else no "next: new entry"
        | _ => no "next: several entries"
      | _ => none
    | _, _ => no "next"
  | _ => no "next: no iterator"

/-! ### Interfaces -/
def AV.asIface : AV → Option (TypeId × AV)
  | .iface t v => some (t, v)
  | .lit (.iface t v) => some (t, .lit v)
  | _ => none

def aAssert (P : Program) (x : AV) (asserted : TypeId) (ok : Bool) : Option AV :=
  let holds (v : AV) : Option AV := some (if ok then .tuple [v, .lit (.bool true)] else v)
  let fails : Option AV := if ok then (match zeroO P asserted with | some z => some (.tuple [.lit z, .lit (.bool false)]) | none => none) else no "assert"
  match undO P asserted, x.asIface with
  | some (.interface want), some (t, _) => match infoO P t with
    | some i => match Instr.missingMethod want i.methods with
      | none => holds x
      | some _ => fails
    | none => none
  | some (.interface _), none => match x with
    | .lit .nilIface => fails
    | _ => none
  | some _, some (t, v) => sel (Nat.beq t asserted) (holds v) fails
  | some _, none => match x with
    | .lit .nilIface => fails
    | _ => none
  | none, _ => none

/-- The method of a dynamic type: its function. The receiver is the value itself. -/
def aMethod (P : Program) (t : TypeId) (name : String) : Option FuncId :=
  match infoO P t with
  | none => none
  | some i => match i.methods.find? (fun m => m.name == name) with
    | none => no "method"
    | some m => sel m.path.isEmpty (match m.func, undO P t with
      | some (f, true), some (.pointer _) => some f
      | some (_, false), some (.pointer _) => no "method: behind a pointer"
      | some (_, true), _ => no "method: of a value"
      | some (f, false), some _ => some f
      | _, _ => none) (no "method: embedded")

/-! ### Builtins -/
def srcLen : AV → Option Nat
  | .slice _ _ len _ _ => some len
  | .lit (.slice none n _) => some n
  | .lit (.string s) => some s.size
  | _ => none

def bytesOfStr (s : ByteArray) : List AV := s.data.toList.map fun b => .lit (.int .u8 (.ofNat b.toNat))

/-- The first n elements. -/
def firstCells (W : AW) (size n : Nat) : AV → Option (List AV)
  | .slice b off _ _ _ => W.read b off (Nat.mul n size)
  | .lit (.slice none _ _) => some []
  | .lit (.string s) => some ((bytesOfStr s).take n)
  | _ => none

/-- The cells of a slice, ready to stand at the head of a new block: shared where they can be. -/
def headOf (W : AW) (size len : Nat) : AV → Option (Tr AV × List AV)
  | .slice b 0 _ _ _ => ob (W.cells b) fun c => sel (Nat.ble (Nat.mul len size) c.n) (some (c.t, c.z)) (no "append: window")
  | .slice b (off + 1) _ _ _ => ob (W.read b (off + 1) (Nat.mul len size)) fun l => some (.leaf, l)
  | .lit (.slice none _ _) => some (.leaf, [])
  | _ => none

def freshAppend (P : Program) (el : TypeId) (W : AW) (size len n : Nat) (s : AV) (new : List AV) : Option (AV × AW) :=
  ob (zeroCells P el) fun z => sel (Nat.beq z.length size)
    (ob (headOf W size len s) fun h => some (.slice W.nxt 0 (Nat.add len n) (Nat.add len n) size, W.new (.cells (writeN (Nat.mul len size) new h.1) h.2 (Nat.mul (Nat.add len n) size) 0 true false el))) (no "append: zero value")

def appendRow (P : Program) (el : TypeId) (W : AW) (size bytes n b off len cap sz : Nat) (new : List AV) : Option (AV × AW) :=
  sel (Nat.ble (Nat.add len n) cap) (ob (W.write b (Nat.add off (Nat.mul len size)) new) fun W => some (.slice b off (Nat.add len n) cap sz, W))
    (sel (Nat.ble (Nat.mul (Nat.add len n) (Nat.add bytes 1)) 100000000)
      (sel (Nat.beq sz 0) (freshAppend P el W size len n (.slice b off len cap sz) new)
        (sel (Nat.beq sz size)
          (ob (W.cells b) fun c => sel (an c.wr (an (Nat.beq c.fz 0) (an (Nat.beq el c.el) (new.all AV.isCell))))
            (ob (freshAppend P el W size len n (.slice b off len cap sz) new) fun r => some (r.1, r.2.put b .dead)) (no "append: frozen"))
          (no "append: element")))
      (no "append: too much"))

def aAppend (P : Program) (W : AW) (sType : TypeId) (basic : Bool) (s x : AV) : Option (AV × AW) :=
  sel basic (no "append: of a number") (ob (sliceElem P sType) fun e => ob (bytesO P e.1) fun bytes => ob (srcLen x) fun n => ob (firstCells W e.2 n x) fun new =>
    sel (an (Nat.blt 0 e.2) (Nat.beq new.length (Nat.mul n e.2)))
      (match s with
        | .slice b off len cap sz => appendRow P e.1 W e.2 bytes n b off len cap sz new
        | .lit (.slice none 0 0) => sel (Nat.beq n 0) (some (s, W)) (sel (Nat.ble (Nat.mul n (Nat.add bytes 1)) 100000000) (freshAppend P e.1 W e.2 0 n s new) (no "append: too much"))
        | _ => no "append")
      (no "append: size"))

def aCopy (P : Program) (W : AW) (dType : TypeId) (dst src : AV) : Option (AV × AW) :=
  ob (sliceElem P dType) fun e => ob (srcLen src) fun m => match dst with
    | .slice b off len _ _ => ob (firstCells W e.2 (Nat.min m len) src) fun l => ob (W.write b off l) fun W => some (.lit (goInt (Nat.min m len)), W)
    | .lit (.slice none n _) => ob (firstCells W e.2 (Nat.min m n) src) fun _ => some (.lit (goInt (Nat.min m n)), W)
    | _ => no "copy"

def aLen (P : Program) (W : AW) (t : TypeId) (x : AV) : Option AV :=
  match undO P t, x with
  | some .string, .lit (.string s) => some (.lit (goInt s.size))
  | some (.array n _), _ => some (.lit (goInt n))
  | some (.slice _), .slice _ _ n _ _ => some (.lit (goInt n))
  | some (.slice _), .lit (.slice _ n _) => some (.lit (goInt n))
  | some (.map _ _), .lit (.map none) => some (.lit (goInt 0))
  | some (.map _ _), .mapr r => match W.at r with
    | some (.map es _) => some (.lit (goInt es.length))
    | _ => none
  | some (.pointer arr), _ => match undO P arr with
    | some (.array n _) => some (.lit (goInt n))
    | _ => none
  | _, _ => no "len"

def aCap (P : Program) (t : TypeId) (x : AV) : Option AV :=
  match undO P t, x with
  | some (.slice _), .slice _ _ _ n 0 => some (.lit (goInt n))
  | some (.slice _), .lit (.slice _ _ n) => some (.lit (goInt n))
  | _, _ => no "cap"

def aDelete (P : Program) (W : AW) (t : TypeId) (m key : AV) : Option AW :=
  ob (mapOf P t) fun ke => ob key.conc fun k => match m with
    | .lit (.map none) => ob (pureRun P (Instr.checkKey true 10000 ke.1 k)) fun _ => some W
    | .mapr r => match W.at r with
      | some (.map es clock) => ob (aFind P es.isEmpty ke.1 k es) fun f => match f with
        | some i => some (W.put r (.map (es.eraseIdx i) clock))
        | none => some W
      | _ => no "delete: no map"
    | _ => no "delete"

def aClear (P : Program) (W : AW) (t : TypeId) (x : AV) : Option AW :=
  match undO P t, x with
  | some (.map _ _), .lit (.map none) => some W
  | some (.slice _), .lit (.slice none _ _) => some W
  | some (.map _ _), .mapr r => match W.at r with
    | some (.map _ clock) => some (W.put r (.map [] clock))
    | _ => none
  | some (.slice elem), .slice b off n _ _ => ob (zeroCells P elem) fun z => W.write b off (zeroRow z (Nat.mul n z.length))
  | _, _ => no "clear"

/-! ### The state of a frame -/
inductive ADef where
  | call (f : FuncId) (captured args : List AV)
  | mark (b : Nat)

inductive AExit where
  | normal
  | exit (id : Nat)
  | ret

structure St where
  tm : Tm
  ds : List ADef
  W : AW

/-- What an operation does: it gives a value · it makes a block · it looks at memory · all else. -/
inductive Do (σ : Type) where
  | give (v : Option AV)
  | make (o : Option (AObj × (Nat → AV)))
  | look (f : AW → Option AV)
  | deed (f : σ → Option (AV × σ))

def bytes? (l : List AV) : Option (List UInt8) := l.mapM fun v => match v with
  | .lit (.int .u8 n) => some (UInt8.ofNat n.toNat)
  | _ => none

def aToString (P : Program) (e : TypeId) (x : AV) (W : AW) : Option AV :=
  match undO P e with
  | some (.int .u8) => match x with
    | .lit (.slice none _ _) => some (.lit (.string ⟨#[]⟩))
    | .slice b off len _ _ => ob (W.read b off len) fun l => ob (bytes? l) fun bs => some (.lit (.string ⟨bs.toArray⟩))
    | _ => no "convert"
  | _ => no "convert: slice"

def aToBytes (P : Program) (e : TypeId) (s : ByteArray) : Option (AObj × (Nat → AV)) :=
  match undO P e with
  | some (.int .u8) => some (.cells .leaf (bytesOfStr s) s.size 0 true false e, fun b => .slice b 0 s.size s.size 1)
  | _ => no "convert: string"

/-- A slice of bytes that a literal of text made: the model marks its block; no cell turns. -/
def aMark {σ : Type} (P : Program) (src dst : TypeId) (x : AV) (cells : σ → Nat → Option Cells) (s : σ) : Option (AV × σ) :=
  sel (Nat.beq src dst) (match undO P dst with
    | some (.slice e) => match undO P e, x.slice? with
      | some (.int .u8), some p => ob (cells s p.1) fun c => sel c.wr (some (x, s)) (no "convert: slices")
      | _, _ => no "convert: slices"
    | _ => none) (no "convert: slices")

/-- A pointer as an unsafe.Pointer, and back: the place itself. -/
def aUnsafe (P : Program) (t : TypeId) (x : AV) (W : AW) : Option AV :=
  ob x.ptr? fun p => ob (W.cells p.1) fun c => match sizeO P t with
    | some (_ + 1) => sel (Nat.blt p.2 c.n) (some x) none
    | _ => none
def aSafe (P : Program) (u : TypeId) (x : AV) (W : AW) : Option AV :=
  ob x.ptr? fun p => ob (W.cells p.1) fun c => match sizeO P u, sizeO P c.el with
    | some (_ + 1), some s => sel (an c.ex (liesAt P P.depth c.el (Nat.div c.n s) p.2 u 1)) (some x) (no "unsafe: no such variable")
    | _, _ => none

def aConvert (P : Program) (src dst : TypeId) (x : AV) : Do St :=
  match undO P src, undO P dst with
  | some (.slice e), some .string => .look (aToString P e x)
  | some .string, some (.slice e) => match x with
    | .lit (.string s) => .make (aToBytes P e s)
    | _ => .give none
  | some (.pointer t), some .unsafePointer => .look (aUnsafe P t x)
  | some .unsafePointer, some (.pointer u) => .look (aSafe P u x)
  | some (.slice _), some (.slice _) => .deed fun s => aMark P src dst x (fun s => s.W.cells) s
  | some (.int _), some (.int k) => match x with
    | .lit (.int _ n) => .give (some (.lit (.int k (wrapF k n))))
    | _ => .give none
  | _, _ => match x with
    | .lit v => .give (litRun P (Go.convert src dst v))
    | _ => .give (no "convert")

def aNilCheck (x : AV) : Option AV :=
  match x with
  | .lit (.pointer none) | .lit .nilIface | .lit .nilFunc | .lit (.func (.method _) _ _) | .func (.method _) _ _ => no "nil"
  | _ => some x

def evO (ev : Operand → AV) : Option Operand → Option AV
  | none => none
  | some x => some (ev x)

def partsOf (ev : Operand → AV) (l : List (Nat × Operand)) : List (Nat × AV) := l.map fun p => (p.1, ev p.2)

def xBasic (P : Program) (u : TypeId) : Bool := match undO P u with
  | some (.int _) => true
  | some _ => false
  | none => true

def aMin (P : Program) (args : List AV) : Option AV := match concL args with
  | some l => litRun P (Builtin.min_ #[] 0 l.toArray)
  | none => none
def aMax (P : Program) (args : List AV) : Option AV := match concL args with
  | some l => litRun P (Builtin.max_ #[] 0 l.toArray)
  | none => none

def aAlloc (P : Program) (elem : TypeId) : Option (AObj × (Nat → AV)) := match zeroO P elem with
  | some z => some (ofCells elem (z.cells.toList.map .lit), fun b => .ptr b 0)
  | none => none

def aBox (el : TypeId) (x : AV) : Option (AObj × (Nat → AV)) := some (ofCells el x.cells, fun b => .ptr b 0)

def aUn (P : Program) (op : UnOp) (x : AV) : Option AV := match x with
  | .lit v => litRun P (Op.unary op v)
  | _ => no "unOp"

def aPick (c a b : AV) : Option AV := match c.bool? with
  | some t => some (sel t a b)
  | none => no "pick"

def aMakeInterface (P : Program) (t : TypeId) (x : AV) : Option AV := match undO P t with
  | some (.interface _) => none
  | some _ => some (.iface t x)
  | none => none


/-! ### Regions -/
/-- What a call of a function comes to: its result and the world behind it. -/
abbrev CallF := FuncId → List AV → AW → Option (AV × AW)
/-- A round of a range over a function: of the loop's block l, with yield's arguments. -/
abbrev RoundF := Nat → List AV → AW → Option (AV × AW)

/-- Calls that are not run: what they come to is known by a contract that was proved. -/
abbrev Orc := FuncId → List AV → AW → Option (AV × AW)

/-- What stands around an operation. -/
structure Env where
  orc : Orc
  call : CallF
  round : RoundF
  inRound : Bool

/-- So many blocks are the package-level variables', at the most. -/
def nG : Nat := 64

def aEval (tm : Tm) : Operand → AV := @Operand.rec (fun _ => AV) (fun t => tm.val t) (fun v => .lit v) (fun g => sel (Nat.blt g nG) (.ptr g 0) (.lit (.pointer (some ⟨g, 0, none⟩)))) (fun f => .lit (.func (.func f) #[] #[]))

/-- What the guard's operation has said. -/
def saidYes (ops : List Oper) (tm : Tm) (j : Nat) : Option Bool :=
  ob (nth ops j) fun oj => ob oj.dst fun d => (tm.val d).bool?

def aWanted (ops : List Oper) (tm : Tm) (o : Oper) : Bool :=
  orec true (fun g => orec false (fun b => b == g.2) (saidYes ops tm g.1)) o.guard

def funcOf : AV → Option (Fn × List AV × List AV)
  | .func fn first captured => some (fn, first, captured)
  | .lit (.func (.func g) first captured) => some (.func g, first.toList.map .lit, captured.toList.map .lit)
  | _ => none

/-- Has a function a body? -/
def hasBody (P : Program) (f : FuncId) : Option Bool := match funcO P f with
  | none => none
  | some fn => some fn.body.isSome

/-- A function by its number: one with a body is entered; one without is the model's own. -/
def aCallFunc (P : Program) (e : Env) (f : FuncId) (args : List AV) (W : AW) : Option (AV × AW) :=
  orec (ob (hasBody P f) fun b => sel b (e.call f args W) (ob (concL args) fun l => match pureRun P (callFunc f l.toArray) with
    | some (.value v) => some (.lit v, W)
    | _ => no "extern")) (fun r => some r) (e.orc f args W)

def aCallValue (P : Program) (e : Env) (f : AV) (args : List AV) (W : AW) : Option (AV × AW) :=
  match funcOf f with
  | some (.func g, first, captured) => aCallFunc P e g (first ++ (args ++ captured)) W
  | some (.yield l, [], []) => e.round l args W
  | _ => no "call"

def aInvoke (P : Program) (e : Env) (recv : AV) (name : String) (args : List AV) (W : AW) : Option (AV × AW) :=
  ob recv.asIface fun r => ob (aMethod P r.1 name) fun f => aCallFunc P e f (r.2 :: args) W

def onW (s : St) (r : Option (AV × AW)) : Option (AV × St) := ob r fun r => some (r.1, { tm := s.tm, ds := s.ds, W := r.2 })
def onU (s : St) (r : Option AW) : Option (AV × St) := ob r fun W => some (.undef, { tm := s.tm, ds := s.ds, W := W })

def aSliceData (x : AV) : Option AV := match x with
  | .slice b off _ (_ + 1) _ => some (.ptr b off)
  | .lit (.slice none _ _) => some (.lit (.pointer none))
  | _ => no "SliceData"

/-- A string that shares its bytes with a slice: they are frozen from now on. -/
def aUnsafeString (P : Program) (pt : TypeId) (x n : AV) (s : St) : Option (AV × St) :=
  ob n.nat? fun n => match n with
  | 0 => match x with
    | .ptr _ _ => some (.lit (.string ⟨#[]⟩), s)
    | .lit (.pointer none) => some (.lit (.string ⟨#[]⟩), s)
    | _ => none
  | n => match undO P pt with
    | some (.pointer u) => ob x.ptr? fun p => ob (s.W.cells p.1) fun c => match sizeO P c.el with
      | some 1 => sel (an c.wr (an (Nat.ble n 1000000000) (sameLayout P P.depth c.el u))) (ob (s.W.read p.1 p.2 n) fun l => ob (bytes? l) fun bs =>
          some (.lit (.string ⟨bs.toArray⟩), { tm := s.tm, ds := s.ds, W := s.W.put p.1 (.cells c.t c.z c.n 1 c.wr c.ex c.el) })) (no "unsafe.String")
      | _ => no "unsafe.String: elements"
    | _ => no "unsafe.String: type"

/-- The builtins that are no calls of functions. -/
def aBuiltin (P : Program) (b : Builtin) (argTypes : List TypeId) (args : List AV) : Do St :=
  match b, argTypes, args with
  | .append, t :: u :: _, x :: y :: _ => .deed fun s => onW s (aAppend P s.W t (xBasic P u) x y)
  | .copy, t :: _, x :: y :: _ => .deed fun s => onW s (aCopy P s.W t x y)
  | .len, t :: _, x :: _ => .look fun W => aLen P W t x
  | .cap, t :: _, x :: _ => .give (aCap P t x)
  | .delete, t :: _, x :: y :: _ => .deed fun s => onU s (aDelete P s.W t x y)
  | .clear, t :: _, x :: _ => .deed fun s => onU s (aClear P s.W t x)
  | .unsafeSliceData, _, [x] => .give (aSliceData x)
  | .unsafeString, t :: _, [x, n] => .deed fun s => aUnsafeString P t x n s
  | .min, _, _ => .give (aMin P args)
  | .max, _, _ => .give (aMax P args)
  | _, _, _ => .give (no "builtin")

def evL (tm : Tm) (l : Array Operand) : List AV := l.toList.map (aEval tm)

def aCall (P : Program) (e : Env) (tm : Tm) (c : Call) : Do St :=
  match c.callee with
  | .builtin b => aBuiltin P b c.argTypes.toList (evL tm c.args)
  | .value f => .deed fun s => onW s (aCallValue P e (aEval tm f) (evL tm c.args) s.W)
  | .invoke recv name => .deed fun s => onW s (aInvoke P e (aEval tm recv) name (evL tm c.args) s.W)

def aDefer (e : Env) (tm : Tm) (c : Call) (s : St) : Option (AV × St) :=
  sel e.inRound (no "defer in a round") (match c.callee with
    | .value f => match funcOf (aEval tm f) with
      | some (.func g, first, captured) => some (.undef, { tm := s.tm, ds := .call g captured (first ++ evL tm c.args) :: s.ds, W := s.W })
      | _ => no "defer"
    | _ => no "defer")

def aMakeFunc (ev : Operand → AV) (fn : Fn) (first captured : Array Operand) : Option AV := match fn with
  | .yield _ => none
  | _ => some (.func fn (first.toList.map ev) (captured.toList.map ev))

def aMakeMap (P : Program) (ev : Operand → AV) (t : TypeId) (r : Option Operand) : Option (AObj × (Nat → AV)) := match r with
  | none => some (.map [] 0, fun b => .mapr b)
  | some r => match undO P t, ev r with
    | some (.map _ _), .lit (.int _ _) => some (.map [] 0, fun b => .mapr b)
    | _, _ => no "makeMap"

def aField (P : Program) (t : TypeId) (x : AV) (f : Nat) : Option AV := match undO P t with
  | some (.struct fields) => ob x.asAgg fun cs => ob (fields.toList[f]?) fun fd => aPart P fd.type cs fd.offset
  | _ => no "field"

def aExtract (x : AV) (ix : Nat) : Option AV := match x with
  | .tuple vs => nth vs ix
  | .lit (.tuple vs) => ob (nth vs.toList ix) fun v => some (.lit v)
  | _ => no "extract"

/-- What an operation does, where it stands. -/
def aDo : Op → Program → Env → Tm → Do St :=
  @Op.rec (fun _ => Program → Env → Tm → Do St)
    (fun x _ _ tm => .give (some (aEval tm x)))
    (fun x _ _ tm => .give (some (aEval tm x)))
    (fun c a b _ _ tm => .give (aPick (aEval tm c) (aEval tm a) (aEval tm b)))
    (fun elem P _ _ => .make (aAlloc P elem))
    (fun t x _ _ tm => .make (aBox t (aEval tm x)))
    (fun t parts P _ tm => .give (aBuild P t (partsOf (aEval tm) parts.toList)))
    (fun t len parts P _ tm => .make (aBuildSlice P t len (partsOf (aEval tm) parts.toList)))
    (fun t m k x P _ tm => .deed fun s => onU s (aMapUpdate P s.W t (aEval tm m) (aEval tm k) (aEval tm x)))
    (fun t a P _ tm => .look fun W => aLoad P W t (aEval tm a))
    (fun t a x P _ tm => .deed fun s => onU s (aStore P s.W t (aEval tm a) (aEval tm x)))
    (fun _ _ _ _ => .give none)
    (fun _ _ _ _ => .give none)
    (fun x _ _ tm => .give (aNilCheck (aEval tm x)))
    (fun op t x y _ P _ tm => .give (aBin P op t x y (aEval tm x) (aEval tm y)))
    (fun op _ x P _ tm => .give (aUn P op (aEval tm x)))
    (fun src dst x P _ tm => aConvert P src dst (aEval tm x))
    (fun _ _ _ _ _ => .give none)
    (fun t x P _ tm => .give (aMakeInterface P t (aEval tm x)))
    (fun fn first captured _ _ tm => .give (aMakeFunc (aEval tm) fn first captured))
    (fun t r P _ tm => .make (aMakeMap P (aEval tm) t r))
    (fun _ _ _ _ _ => .give none)
    (fun t l c P _ tm => .make (aMakeSlice P t (aEval tm l) (aEval tm c)))
    (fun t x lo hi mx P _ tm => .give (aSlice P t (aEval tm x) (evO (aEval tm) lo) (evO (aEval tm) hi) (evO (aEval tm) mx)))
    (fun t x f P _ tm => .give (aFieldAddr P t (aEval tm x) f))
    (fun t x f P _ tm => .give (aField P t (aEval tm x) f))
    (fun t x ix P _ tm => .give (aIndexAddr P t (aEval tm x) (aEval tm ix)))
    (fun t x ix P _ tm => .give (aIndex P t (aEval tm x) (aEval tm ix)))
    (fun t x ix ok P _ tm => .look fun W => aLookup P W t (aEval tm x) (aEval tm ix) ok)
    (fun t m k x P _ tm => .deed fun s => onU s (aMapUpdate P s.W t (aEval tm m) (aEval tm k) (aEval tm x)))
    (fun _ _ _ _ _ _ => .give none)
    (fun _ _ _ _ _ _ _ => .give none)
    (fun t x P _ tm => .deed fun s => onW s (aRange P s.W t (aEval tm x)))
    (fun it isString _ _ tm => .deed fun s => onW s (aNext s.W (aEval tm it) isString))
    (fun _ _ _ _ => .give none)
    (fun x _ asserted ok P _ tm => .give (aAssert P (aEval tm x) asserted ok))
    (fun t ix _ _ tm => .give (aExtract (aEval tm t) ix))
    (fun c P e tm => aCall P e tm c)
    (fun _ _ _ _ => .give none)
    (fun c _ e tm => .deed fun s => aDefer e tm c s)
    (fun _ _ _ _ => .give none)
    (fun _ _ _ _ _ => .give none)
    (fun _ _ _ _ _ _ => .give none)
    (fun _ _ _ _ _ => .give none)

def doIt (d : Do St) (tm : Tm) (ds : List ADef) (W : AW) : Option (AV × St) :=
  @Do.rec St (fun _ => Option (AV × St)) (fun v => ob v fun v => some (v, ⟨tm, ds, W⟩)) (fun o => ob2 o fun o f => some (f W.nxt, ⟨tm, ds, W.new o⟩))
    (fun f => ob (f W) fun v => some (v, ⟨tm, ds, W⟩)) (fun f => f ⟨tm, ds, W⟩) d

def fin (dst : Option Tmp) (v : AV) (s : St) : Option St := @St.rec (fun _ => Option St) (fun tm ds W => ob (Tm.putO dst v tm) fun tm => some ⟨tm, ds, W⟩) s

/-- One operation. -/
def aOper (P : Program) (e : Env) (ops : List Oper) (o : Oper) (s : St) : Option St :=
  @St.rec (fun _ => Option St) (fun tm ds W =>
    ob2 (sel (aWanted ops tm o) (doIt (aDo o.op P e tm) tm ds W) (some (.undef, ⟨tm, ds, W⟩))) (fin o.dst)) s

def aOps (P : Program) (e : Env) (ops l : List Oper) (s : St) : Option St :=
  @List.rec Oper (fun _ => St → Option St) (fun s => some s) (fun o _ p s => ob (aOper P e ops o s) p) l s

/-! #### A region that draws its order -/
def Do.cls {σ : Type} : Do σ → Nat
  | .give _ | .make _ => 0
  | .look _ => 1
  | .deed _ => 2

def tm0 : Tm := ⟨0, .leaf⟩
def env0 : Env := ⟨fun _ _ _ => none, fun _ _ _ => none, fun _ _ _ => none, false⟩

/-- 0: it looks at nothing of memory (it may make a block) · 1: it only looks · 2: all others. -/
def opClass (P : Program) (op : Op) : Nat := (aDo op P env0 tm0).cls

/-- What is known of an operation off its text: its class, the slot that it writes, those that it looks at, what it must come behind. -/
structure Fact where
  cls : Nat
  dst : Option Nat
  looks : Nat
  anc : Nat

def bit (i : Nat) : Nat := Nat.shiftLeft 1 i

def maskOf (l : List Nat) : Nat := l.foldl (fun m i => Nat.lor m (bit i)) 0

def tmpsOf (l : List Operand) : List Tmp := l.filterMap fun | .tmp t => some t | _ => none

def looksAt (ops : List Oper) (o : Oper) : List Tmp :=
  (match o.guard with
    | some g => (match nth ops g.1 with | some og => (match og.dst with | some d => [d] | none => []) | none => [])
    | none => []) ++ tmpsOf o.op.operands.toList

/-- All that an operation must come behind, in whatever order. -/
def ancMask (acc : List Fact) (o : Oper) : Nat :=
  o.after.toList.foldl (fun m e => sel (Region.binds .any e) (Nat.lor (Nat.lor m (bit e.on)) (orec 0 (fun f => f.anc) (nth acc e.on))) m) 0

def factOf (P : Program) (ops : List Oper) (acc : List Fact) (o : Oper) : Fact :=
  { cls := opClass P o.op, dst := o.dst, looks := maskOf (looksAt ops o), anc := ancMask acc o }

def facts (P : Program) (ops : List Oper) : List Fact := ops.foldl (fun acc o => acc ++ [factOf P ops acc o]) []

def ready (f : Fact) (done i : Nat) : Bool := an (nt (tb done i)) (Nat.beq (Nat.land f.anc done) f.anc)

/-- Those that can be carried out, of the operations of class 2 or of the others. -/
def readies (loud : Nat) (done : Nat) : List Fact → Nat → List Nat
  | [], _ => []
  | f :: r, i => sel (an (Nat.beq (Nat.div f.cls 2) loud) (ready f done i)) (i :: readies loud done r (i + 1)) (readies loud done r (i + 1))

/-- A plan: operations that are carried out as early as they can be; then, each time, those that only look are asked anew, an operation of class 2 is carried out, and what can be behind it. -/
structure Plan where
  head : List Nat
  segs : List (List Nat × Nat × List Nat)
  last : List Nat

/-- All that can be carried out now without one of class 2. -/
def floats (fs : List Fact) : Nat → Nat → List Nat × Nat
  | 0, done => ([], done)
  | f + 1, done => match readies 0 done fs 0 with
    | i :: _ => let r := floats fs f (Nat.lor done (bit i)); (i :: r.1, r.2)
    | [] => ([], done)

def looksNow (done settled : Nat) : List Fact → Nat → List Nat
  | [], _ => []
  | f :: r, i => sel (an (Nat.beq f.cls 1) (an (tb done i) (nt (tb settled i)))) (i :: looksNow done settled r (i + 1)) (looksNow done settled r (i + 1))

def segsOf (fs : List Fact) : Nat → Nat → Nat → List (List Nat × Nat × List Nat) × List Nat
  | 0, _, _ => ([], [])
  | f + 1, done, settled =>
    match readies 1 done fs 0 with
    | [] => ([], looksNow done settled fs 0)
    | i :: _ =>
      let fl := floats fs fs.length (Nat.lor done (bit i))
      let r := segsOf fs f fl.2 (Nat.lor settled (orec 0 (fun f => f.anc) (nth fs i)))
      ((looksNow done settled fs 0, i, fl.1) :: r.1, r.2)

def planOf (fs : List Fact) : Plan :=
  let fl := floats fs fs.length 0
  let r := segsOf fs (fs.length + 1) fl.2 0
  { head := fl.1, segs := r.1, last := r.2 }

mutual
def AV.same : AV → AV → Bool
  | .lit v, .lit w => litSame v w
  | .ptr a b, .ptr c d => Nat.beq a c && Nat.beq b d
  | .slice a b c d e, .slice a' b' c' d' e' => Nat.beq a a' && (Nat.beq b b' && (Nat.beq c c' && (Nat.beq d d' && Nat.beq e e')))
  | .mapr a, .mapr b => Nat.beq a b
  | .func f a b, .func g c d => decide (f = g) && (sameL a c && sameL b d)
  | .iface t v, .iface u w => Nat.beq t u && v.same w
  | .agg a, .agg b => sameL a b
  | .tuple a, .tuple b => sameL a b
  | _, _ => false
def sameL : List AV → List AV → Bool
  | [], [] => true
  | a :: r, b :: s => a.same b && sameL r s
  | _, _ => false
/-- Surely the same. -/
def litSame : Value → Value → Bool
  | .bool a, .bool b => a == b
  | .int j a, .int k b => kindEq j k && intEq a b
  | .string a, .string b => decide (a.data.toList = b.data.toList)
  | .pointer none, .pointer none | .map none, .map none | .nilFunc, .nilFunc | .nilIface, .nilIface => true
  | .slice none a b, .slice none c d => Nat.beq a c && Nat.beq b d
  | .func f ⟨[]⟩ ⟨[]⟩, .func g ⟨[]⟩ ⟨[]⟩ => decide (f = g)
  | _, _ => false
end

/-- What an operation that only looks answers now is what it answered. -/
def looksSame (P : Program) (ops : List Oper) (s : St) (i : Nat) : Bool :=
  match nth ops i with
  | none => false
  | some o => sel (aWanted ops s.tm o)
      (match aDo o.op P env0 s.tm, o.dst with
        | .look f, some d => match f s.W with
          | some v => v.same (s.tm.val d)
          | none => false
        | .look f, none => (f s.W).isSome
        | _, _ => false)
      true

def aNums (P : Program) (e : Env) (ops : List Oper) : List Nat → St → Option St
  | [], s => some s
  | i :: r, s => ob (nth ops i) fun o => ob (aOper P e ops o s) fun s => aNums P e ops r s

def aSegs (P : Program) (e : Env) (ops : List Oper) (last : List Nat) : List (List Nat × Nat × List Nat) → St → Option St
  | [], s => sel (last.all (looksSame P ops s)) (some s) (no "draw: it looks otherwise")
  | g :: r, s => sel (g.1.all (looksSame P ops s)) (ob (aNums P e ops (g.2.1 :: g.2.2) s) fun s => aSegs P e ops last r s) (no "draw: it looks otherwise")

/-- May a region be gone through so? Told off its text alone. -/
def topo (md : Region.Mode) (ops : List Oper) : List Nat → Nat → Option Nat
  | [], done => some done
  | i :: r, done => ob (nth ops i) fun o => sel (an (nt (tb done i)) (o.after.toList.all fun e => orr (nt (Region.binds md e)) (tb done e.on))) (topo md ops r (Nat.lor done (bit i))) none

/-- An order that the mode lets. -/
def order (md : Region.Mode) (ops : List Oper) : Nat → Nat → List Nat
  | 0, _ => []
  | f + 1, done => match (List.range ops.length).find? (fun i => an (nt (tb done i)) (match nth ops i with
      | some o => o.after.toList.all fun e => orr (nt (Region.binds md e)) (tb done e.on)
      | none => false)) with
    | some i => i :: order md ops f (Nat.lor done (bit i))
    | none => []

/-- Operations of class 0 or 1, one behind the other, each when it can be. -/
def floatsOk (fs : List Fact) : List Nat → Nat → Option Nat
  | [], done => some done
  | i :: r, done => ob (nth fs i) fun f => sel (an (nt (Nat.beq f.cls 2)) (ready f done i)) (floatsOk fs r (Nat.lor done (bit i))) none

/-- Nothing that an operation looks at was written since, but by what it must come behind. -/
def kept (done : Nat) (f : Fact) : List Fact → Nat → Bool
  | [], _ => true
  | g :: r, j => an (orec true (fun d => orr (nt (an (tb f.looks d) (tb done j))) (tb f.anc j)) g.dst) (kept done f r (j + 1))

/-- What is asked anew: all that was carried out, only looks, and need not have come ahead of one of class 2; nothing that it takes was written since. -/
def looksOk (all : List Fact) (done settled : Nat) (looks : List Nat) : List Fact → Nat → Bool
  | [], _ => true
  | f :: r, i => an (orr (nt (an (Nat.beq f.cls 1) (an (tb done i) (nt (tb settled i))))) (an (looks.contains i) (kept done f all 0))) (looksOk all done settled looks r (i + 1))

def segsOk (fs : List Fact) (full : Nat) (last : List Nat) : List (List Nat × Nat × List Nat) → Nat → Nat → Bool
  | [], done, settled => an (readies 0 done fs 0).isEmpty (an (Nat.beq done full) (looksOk fs done settled last fs 0))
  | (looks, i, fl) :: r, done, settled =>
    an (readies 0 done fs 0).isEmpty (an (looksOk fs done settled looks fs 0) (an (readies 1 done fs 0 == [i])
      (match floatsOk fs fl (Nat.lor done (bit i)) with
        | some done => segsOk fs full last r done (Nat.lor settled (orec 0 (fun f => f.anc) (nth fs i)))
        | none => false)))

/-- No two write one slot; whoever looks at a slot that another one writes comes ahead of it or behind it. -/
def pairOk (f : Fact) (i : Nat) : List Fact → Nat → Bool
  | [], _ => true
  | g :: r, j => an (orr (Nat.beq i j) (orec true (fun d => an (nt (g.dst == some d)) (orr (nt (tb g.looks d)) (orr (tb g.anc i) (tb f.anc j)))) f.dst)) (pairOk f i r (j + 1))

def opOk (o : Oper) (f : Fact) (i : Nat) : Bool :=
  an (o.after.toList.all fun e => orr (nt (Region.binds .text e)) (Nat.blt e.on i))
    (an (orec true (fun g => tb f.anc g.1) o.guard) (orec true (fun d => not (tb f.looks d)) o.dst))

def opsOk (all : List Fact) : List Oper → List Fact → Nat → Bool
  | o :: r, f :: s, i => an (opOk o f i) (an (pairOk f i all 0) (opsOk all r s (i + 1)))
  | [], [], _ => true
  | _, _, _ => false

def regOk (ops : List Oper) (fs : List Fact) (p : Plan) : Bool :=
  let full := Nat.sub (bit ops.length) 1
  an (opsOk fs ops fs 0) (an (topo .gc ops (order .gc ops ops.length 0) 0 == some full)
    (match floatsOk fs p.head 0 with
      | some done => segsOk fs full p.last p.segs done 0
      | none => false))

def goodPlan (P : Program) (ops : List Oper) : Option Plan :=
  let fs := facts P ops
  let p := planOf fs
  sel (regOk ops fs p) (some p) none

def aDraw (P : Program) (e : Env) (ops : List Oper) (s : St) : Option St :=
  ob (goodPlan P ops) fun p => ob (aNums P e ops p.head s) fun s => aSegs P e ops p.last p.segs s

def aRegion (P : Program) (e : Env) (ops : List Oper) (draw : Bool) (s : St) : Option St := sel draw (aDraw P e ops s) (aOps P e ops ops s)

/-! ### Code -/
/-- What is asked of the runs at a lower fuel. -/
abbrev CodeF := Bool → Code → St → Option (AExit × St)

def tmOf (args : List AV) (n : Nat) : Tm := { n := Nat.max args.length n, t := writeN 0 args .leaf }

def aResult (P : Program) (s : St) : ResultVar → Option AV
  | .tmp t => some (s.tm.val t)
  | .cell a t => aLoad P s.W t (s.tm.val a)

def aResults (P : Program) (s : St) : List ResultVar → Option (List AV)
  | [] => some []
  | r :: l => ob (aResult P s r) fun v => ob (aResults P s l) fun vs => some (v :: vs)

def asResult : List AV → AV
  | [v] => v
  | l => .tuple l

/-- The way out of a body. -/
def leftBy (r : AExit × St) : Option St :=
  match r.1 with
  | .normal | .ret => some r.2
  | .exit _ => no "body: exit"

def bodyOf (P : Program) (f : FuncId) : Option (Func × Code) :=
  match funcO P f with
  | some fn => match fn.body with
    | some c => some (fn, c)
    | none => none
  | none => none

/-- A function's body, run. -/
def aBody (P : Program) (rec : CodeF) (f : FuncId) (args : List AV) (W : AW) : Option (Func × St) :=
  ob (bodyOf P f) fun fc => ob (rec false fc.2 { tm := tmOf args fc.1.ntmps, ds := [], W }) fun r => ob (leftBy r) fun s => some (fc.1, s)

/-- The deferred calls: what they answer is dropped; none defers anything. -/
def aLeave (P : Program) (rec : CodeF) : List ADef → AW → Option AW
  | [], W => some W
  | .mark b :: ds, W => match W.at b with
    | some (.deferred false) => aLeave P rec ds (W.put b (.deferred true))
    | _ => none
  | .call f captured args :: ds, W => ob (aBody P rec f (args ++ captured) W) fun r => match r.2.ds with
    | [] => ob (aResults P r.2 r.1.results.toList) fun _ => aLeave P rec ds r.2.W
    | _ :: _ => no "deferred: defers"

def aCallN (P : Program) (rec : CodeF) : CallF := fun f args W =>
  match aBody P rec f args W with
  | none => no (((funcO P f).map (·.name)).getD "?")
  | some r => ob (aLeave P rec r.2.ds r.2.W) fun W => ob (aResults P { tm := r.2.tm, ds := [], W } r.1.results.toList) fun l => some (asResult l, W)

def setAll : List (Tmp × AV) → Tm → Option Tm
  | [], tm => some tm
  | p :: r, tm => ob (Tm.putO (some p.1) p.2 tm) fun tm => setAll r tm

def jumpOf : AExit → Option Code
  | .normal => none
  | .ret => some .ret
  | .exit id => some (.exit id)

def aRoundN (rec : CodeF) : RoundF := fun l args W =>
  match W.at l with
  | some (.loop .ready _ tm params assign body _) =>
    sel (Nat.beq args.length params.size) (ob (setAll (params.toList.zip args) tm) fun tm1 => ob (rec true assign { tm := tm1, ds := [], W }) fun r =>
      match r.1, r.2.W.at l with
      | .normal, some (.loop .ready p tm params assign body' defers) =>
        ob (rec true body { tm := r.2.tm, ds := r.2.ds, W := r.2.W.put l (.loop .busy p tm params assign body' defers) }) fun q =>
          match q.2.W.at l with
          | some (.loop _ _ tm params assign body' defers) =>
            some (.lit (.bool (jumpOf q.1).isNone), q.2.W.put l (.loop (if (jumpOf q.1).isNone then .ready else .done) (jumpOf q.1) tm params assign body' defers))
          | _ => none
      | _, _ => no "round") none
  | _ => no "round: no loop that is ready"

def aRangeFunc (P : Program) (rec : CodeF) (g : Operand) (params : Array Tmp) (assign body : Code) (s : St) : Option (AExit × St) :=
  let D := s.W.next
  let L := Nat.add s.W.next 1
  match funcOf (aEval s.tm g) with
  | some (.func f, first, captured) => ob (hasBody P f) fun b => sel b (ob (aCallN P rec f (first ++ ([.func (.yield L) [] []] ++ captured)) ((s.W.new (.deferred false)).new (.loop .ready none s.tm params assign body D))) fun r =>
      match r.2.at L with
      | some (.loop st p tm params assign body defers) =>
        match st with
        | .busy => none
        | _ =>
          let s' : St := { tm := s.tm, ds := .mark D :: s.ds, W := r.2.put L (.loop .exhausted p tm params assign body defers) }
          match p with
          | none => some (.normal, s')
          | some c => rec false c s'
      | _ => none) none
  | _ => no "range: no function"

/-- On behind the first of two. -/
def thenDo (go : CodeF) (ir : Bool) (b : Code) (x : AExit) (s : St) : Option (AExit × St) :=
  match x with
  | .normal => go ir b s
  | x => some (x, s)

def outOf (id : Nat) (x : AExit) (s : St) : Option (AExit × St) :=
  match x with
  | .exit i => some (sel (Nat.beq i id) .normal (.exit i), s)
  | x => some (x, s)

def aCondTo (go : CodeF) (ir : Bool) (c : Operand) (a b : Code) (s : St) : Option (AExit × St) :=
  ob (aEval s.tm c).bool? fun t => sel t (go ir a s) (go ir b s)

def aRegTo (P : Program) (O : Orc) (go : CodeF) (ir : Bool) (ops : List Oper) (draw : Bool) (s : St) : Option (AExit × St) :=
  ob (aRegion P ⟨O, aCallN P go, aRoundN go, ir⟩ ops draw s) fun s => some (.normal, s)

def aCode : Code → Program → Orc → CodeF → Bool → St → Option (AExit × St) :=
  @Code.rec (fun _ => Program → Orc → CodeF → Bool → St → Option (AExit × St))
    (fun _ _ _ _ s => some (.normal, s))
    (fun _ ops draw P O go ir s => aRegTo P O go ir ops.toList draw s)
    (fun a b _ _ _ _ go ir s => ob2 (go ir a s) (thenDo go ir b))
    (fun c a b _ _ _ _ go ir s => aCondTo go ir c a b s)
    (fun id b _ _ _ go ir s => ob2 (go ir b s) (outOf id))
    (fun b _ _ _ go ir s => ob2 (go ir b s) (thenDo go ir (.loop b)))
    (fun g params assign body _ _ P _ go ir s => sel ir (no "range over a function in a round") (aRangeFunc P go g params assign body s))
    (fun id _ _ _ _ s => some (.exit id, s))
    (fun b _ _ _ go ir s => go ir b s)
    (fun _ _ _ _ _ s => some (.normal, s))
    (fun _ _ _ _ _ _ => no "goto")
    (fun _ _ _ _ s => some (.ret, s))
    (fun _ _ _ _ _ _ => no "refused")

def run (P : Program) (O : Orc) (n : Nat) : CodeF := @Nat.rec (fun _ => CodeF) (fun _ _ _ => none) (fun _ r ir c s => aCode c P O r ir s) n

/-- The whole call. -/
def callN (P : Program) (O : Orc) (n : Nat) : CallF := aCallN P (run P O n)

end
end Go.Ab
