/- The evaluator of a function over plain values; how it stands to the model: values, slots, single steps. -/
import Derived.Orders
import Derived.Below
import Derived.Laws.Cells
import Derived.Laws.Rows
import Derived.Laws.MakeOwn
import Derived.Maps.AppendAt
import Derived.Lib.AppendStr
import Derived.Laws.AppendOwnNone
import Derived.Laws.Sem
import Derived.Laws.Slices
import Derived.Laws.BytesArg
import Derived.Laws.Small
import Derived.Lib.ConvBytes
import Derived.Laws.BytesString
import Derived.Laws.Tables
import Derived.Great.BuildSlice
set_option linter.unusedSimpArgs false
set_option linter.unusedVariables false
/- The evaluator: Go's code over plain values. No memory is in it: a slice that is shared is a list, a row that the call made has a name, a variable in memory is a box. -/
namespace Go.Proofs.YtlhjljplfmmoaaaGreatDoor.Ev
open Go

/-- Data at rest. -/
inductive PV where
  | val (v : Value)
  | sl (xs : List PV)
  /-- a function that has caught a variable which holds a list -/
  | fn (f : FuncId) (xs : List PV)
  | agg (cs : List PV)
deriving Inhabited

/-- What a slot holds. -/
inductive TV where
  /-- whatever lies there -/
  | undef
  /-- an operation that was passed over -/
  | skip
  | val (v : Value)
  | nil
  | sl (xs : List PV)
  | fn (f : FuncId) (xs : List PV)
  | row (k off len : Nat)
  | ptr (k i off : Nat)
  | rd (cs : List PV)
  | agg (cs : List TV)
  | tup (ts : List TV)
deriving Inhabited

inductive SO where
  | box (cs : List TV)
  /-- e: the elements' type -/
  | row (e : TypeId) (xs : List PV)

abbrev Store := List (Nat × SO)

def PV.cells : PV → List PV
  | .agg cs => cs
  | v => [v]
def PV.tv1 : PV → TV
  | .val v => .val v
  | .sl xs => .sl xs
  | .fn f xs => .fn f xs
  | .agg _ => .undef
def PV.tv : PV → TV
  | .agg cs => .agg (cs.map PV.tv1)
  | .val v => .val v
  | .sl xs => .sl xs
  | .fn f xs => .fn f xs
def TV.cells : TV → List TV
  | .agg cs => cs
  | v => [v]
/-- One cell that is told. -/
def one : TV → Bool
  | .undef | .skip | .agg _ | .tup _ => false
  | _ => true
def oneAll : List TV → Bool
  | [] => true
  | v :: t => one v && oneAll t

def Store.get : Store → Nat → Option SO
  | [], _ => none
  | (j, o) :: t, k => if k = j then some o else Store.get t k
def Store.ins : Store → Nat → SO → Store
  | [], k, o => [(k, o)]
  | (j, p) :: t, k, o => if k < j then (k, o) :: (j, p) :: t else if k = j then (k, o) :: t else (j, p) :: Store.ins t k o
def Store.del : Store → Nat → Store
  | [], _ => []
  | (j, p) :: t, k => if k = j then Store.del t k else (j, p) :: Store.del t k

structure St where
  tm : List TV
  sus : List (List TV)
  so : Store

def toPV1 (so : Store) : TV → Option PV
  | .val v => some (.val v)
  | .nil => some (.sl [])
  | .sl xs => some (.sl xs)
  | .fn f xs => some (.fn f xs)
  | .row k off len => match so.get k with
    | some (.row _ xs) => if off + len ≤ xs.length then some (.sl ((xs.drop off).take len)) else none
    | _ => none
  | _ => none
def allSome {α : Type} : List (Option α) → Option (List α)
  | [] => some []
  | none :: _ => none
  | some x :: t => (allSome t).map (x :: ·)
def toPV1s (so : Store) : List TV → Option (List PV)
  | [] => some []
  | v :: t => match toPV1 so v, toPV1s so t with
    | some x, some xs => some (x :: xs)
    | _, _ => none
def aggO : Option (List PV) → Option PV
  | some xs => some (.agg xs)
  | none => none
def toPV (so : Store) : TV → Option PV
  | .agg cs => aggO (toPV1s so cs)
  | v => toPV1 so v

def scalarV : Value → Bool
  | .bool _ | .int _ _ | .string _ | .nilIface | .nilFunc => true
  | _ => false
def ofVal1 : Value → Option TV
  | .slice none 0 0 => some .nil
  | v => if scalarV v then some (.val v) else none
def ofVals : List Value → Option (List TV)
  | [] => some []
  | v :: t => match ofVal1 v, ofVals t with
    | some x, some xs => some (x :: xs)
    | _, _ => none
def ofVal : Value → Option TV
  | .agg cs => (match ofVals cs.toList with | some xs => some (.agg xs) | none => none)
  | v => ofVal1 v

def nth : List TV → Nat → TV
  | [], _ => .undef
  | v :: _, 0 => v
  | _ :: t, n + 1 => nth t n
def setN : List TV → Nat → TV → List TV
  | [], _, _ => []
  | _ :: t, 0, v => v :: t
  | u :: t, n + 1, v => u :: setN t n v
/-- A value that is told. -/
def told : TV → Option TV
  | .undef => none
  | .skip => none
  | v => some v
def rdv (tm : List TV) : Operand → Option TV
  | .tmp t => told (nth tm t)
  | .const v => ofVal v
  | .global _ => none
  | .func _ => none

section
variable (P : Program)
def isAggT (t : TypeId) : Option Bool := match P.underlying t with
  | some (.struct _) => some true
  | some (.array _ _) => some true
  | some _ => some false
  | none => none
def sizeT (t : TypeId) : Option Nat := (P.info? t).map (·.size)
def bytesT (t : TypeId) : Option Nat := (P.info? t).map (·.bytes)
def zeroT (t : TypeId) : Option TV := ((P.info? t).bind (·.zero)).bind ofVal
def elemT (t : TypeId) : Option TypeId := match P.underlying t with | some (.slice e) => some e | _ => none
def fieldT (s : TypeId) (f : Nat) : Option Field := match P.underlying s with | some (.struct fs) => fs[f]? | _ => none

def takeCells (t : TypeId) (cs : List TV) : Option TV :=
  match isAggT P t with
  | some true => match sizeT P t with
    | some n => if n ≤ cs.length then some (.agg (cs.take n)) else none
    | none => none
  | some false => told (nth cs 0)
  | none => none

def loadTV (so : Store) (t : TypeId) : TV → Option TV
  | .ptr k i off => match so.get k with
    | some (.box cs) => if i = 0 then takeCells P t (cs.drop off) else none
    | some (.row _ xs) => match xs[i]? with
      | some x => takeCells P t ((x.cells.map PV.tv1).drop off)
      | none => none
    | none => none
  | .rd cs => takeCells P t (cs.map PV.tv1)
  | _ => none

def intBin (op : BinOp) (k : IntKind) (a b : Int) : Option Value :=
  match op with
  | .add => some (.int k (k.wrap (a + b)))
  | .sub => some (.int k (k.wrap (a - b)))
  | .mul => some (.int k (k.wrap (a * b)))
  | .quo => if b = 0 then none else some (.int k (k.wrap (a.tdiv b)))
  | .rem => if b = 0 then none else some (.int k (a.tmod b))
  | .and => some (.int k (k.wrap (BitVec.ofInt k.bits a &&& BitVec.ofInt k.bits b).toNat))
  | .or => some (.int k (k.wrap (BitVec.ofInt k.bits a ||| BitVec.ofInt k.bits b).toNat))
  | .xor => some (.int k (k.wrap (BitVec.ofInt k.bits a ^^^ BitVec.ofInt k.bits b).toNat))
  | .andNot => some (.int k (k.wrap (BitVec.ofInt k.bits a &&& ~~~ BitVec.ofInt k.bits b).toNat))
  | .eql => some (.bool (a == b))
  | .neq => some (.bool (a != b))
  | .lss => some (.bool (a < b))
  | .leq => some (.bool (a ≤ b))
  | .gtr => some (.bool (a > b))
  | .geq => some (.bool (a ≥ b))
  | _ => none
def intShift (op : BinOp) (k : IntKind) (a b : Int) : Option Value :=
  if b < 0 then none else match op with
  | .shl => some (.int k (k.wrap (a * 2 ^ min b.toNat k.bits)))
  | .shr => some (.int k (a.fdiv (2 ^ min b.toNat k.bits)))
  | _ => none
def strBin (op : BinOp) (a b : ByteArray) : Option Value :=
  match op with
  | .add => if a.size + b.size ≤ 9223372036854775807 then some (.string (a ++ b)) else none
  | .eql => some (.bool (a.toList == b.toList))
  | .neq => some (.bool !(a.toList == b.toList))
  | .lss => some (.bool (Op.bytesLess a.toList b.toList))
  | .leq => some (.bool (Op.bytesLess a.toList b.toList || a.toList == b.toList))
  | .gtr => some (.bool !(Op.bytesLess a.toList b.toList || a.toList == b.toList))
  | .geq => some (.bool !(Op.bytesLess a.toList b.toList))
  | _ => none
def isShift : BinOp → Bool
  | .shl | .shr => true
  | _ => false
/-- A comparison with nil: only where it is known. -/
def nilBin (op : BinOp) (isnil : Option Bool) : Option Value :=
  match op, isnil with
  | .eql, some b => some (.bool b)
  | .neq, some b => some (.bool !b)
  | _, _ => none
def nilness : TV → Option Bool
  | .nil => some true
  | .sl (_ :: _) => some false
  | _ => none
def binTV (op : BinOp) (t : TypeId) : TV → TV → Option Value
  | .val (.int k a), .val (.int j b) => if isShift op then intShift op k a b else if k = j then intBin op k a b else none
  | .val (.string a), .val (.string b) => strBin op a b
  | .val (.bool a), .val (.bool b) => match P.underlying t with
    | some .bool => (match op with | .eql => some (.bool (a == b)) | .neq => some (.bool !(a == b)) | _ => none)
    | _ => none
  | .sl xs, .nil => if (elemT P t).isSome then nilBin op (nilness (.sl xs)) else none
  | .nil, .nil => if (elemT P t).isSome then nilBin op (some true) else none
  | _, _ => none
def unTV (op : UnOp) : TV → Option Value
  | .val (.int k n) => match op with
    | .neg => some (.int k (k.wrap (0 - n)))
    | .xor => some (.int k (k.wrap (BitVec.ofInt k.bits (if k.signed then -1 else k.max) ^^^ BitVec.ofInt k.bits n).toNat))
    | _ => none
  | .val (.bool b) => match op with
    | .not => some (.bool !b)
    | _ => none
  | _ => none
def u8s (s : ByteArray) : List PV := s.data.toList.map fun b => .val (.int .u8 b.toNat)
def strOf : List PV → Option (List UInt8)
  | [] => some []
  | .val (.int .u8 n) :: t => (strOf t).map (UInt8.ofNat n.toNat :: ·)
  | _ :: _ => none
/-- The contents of whatever is a slice. -/
def elems (so : Store) (v : TV) : Option (List PV) := match toPV1 so v with | some (.sl xs) => some xs | _ => none
def isU8 (t : TypeId) : Bool := match P.underlying t with | some (.int .u8) => true | _ => false
def convTV (so : Store) (src dst : TypeId) (v : TV) : Option TV :=
  match P.underlying src, P.underlying dst, v with
  | some (.int _), some (.int k), .val (.int _ n) => some (.val (.int k (k.wrap n)))
  | some .string, some .string, .val (.string s) => some (.val (.string s))
  | some .string, some (.slice e), .val (.string s) => if isU8 P e = true ∧ s.size ≤ 9223372036854775807 then some (.sl (u8s s)) else none
  | some (.slice e), some .string, v => if isU8 P e then match elems so v with
      | some xs => (strOf xs).map fun bs => .val (.string ⟨bs.toArray⟩)
      | none => none
    else none
  | _, _, _ => none

def tupTV : List PV → TV
  | [v] => v.tv
  | vs => .tup (vs.map PV.tv)
def lenTV (t : TypeId) (v : TV) : Option Int :=
  match P.underlying t, v with
  | some .string, .val (.string s) => some s.size
  | some (.slice _), .nil => some 0
  | some (.slice _), .sl xs => some xs.length
  | some (.slice _), .row _ _ len => some len
  | _, _ => none
def intOf? : TV → Option Int
  | .val (.int _ n) => some n
  | _ => none
def best1 (mx : Bool) (k : IntKind) : Int → List (Option TV) → Option Value
  | a, [] => some (.int k a)
  | a, some (.val (.int _ b)) :: t => best1 mx k (if mx then (if b > a then b else a) else (if b < a then b else a)) t
  | _, _ :: _ => none
def best (mx : Bool) : List (Option TV) → Option Value
  | some (.val (.int k a)) :: t => best1 mx k a t
  | _ => none
/-- Results that make no new memory and need none. -/
def valO : Option Value → Option TV
  | some v => some (.val v)
  | none => none
def i64O : Option Int → Option TV
  | some n => some (.val (.int .i64 n))
  | none => none
def bltTV (b : Builtin) (tys : List TypeId) (xs : List (Option TV)) : Option TV :=
  match b with
  | .len => match tys, xs with
    | [t], [some v] => i64O (lenTV P t v)
    | _, _ => none
  | .max => valO (best true xs)
  | .min => valO (best false xs)
  | _ => none

def pick? (c : Option TV) (a b : Option TV) : Option TV := match c, a, b with
  | some (.val (.bool t)), some (.val (.bool x)), some (.val (.bool y)) => some (.val (.bool (if t then x else y)))
  | some (.val (.bool t)), a, b => if t then a else b
  | _, _, _ => none
/-- A bound of a slice expression: not there, or a number. -/
def boundV : Option (Option TV) → Nat → Option Int
  | none, d => some d
  | some (some (.val (.int _ n))), _ => some n
  | _, _ => none
/-- xs[lo:hi] of so many elements: all bounds within the length. -/
def bounds (len : Nat) (lo hi mx : Option (Option TV)) : Option (Nat × Nat) :=
  match boundV lo 0, boundV hi len, boundV mx len with
  | some l, some h, some m => if 0 ≤ l ∧ l ≤ h ∧ h ≤ m ∧ m ≤ len ∧ (mx.isSome = true → hi.isSome = true) then some (l.toNat, h.toNat) else none
  | _, _, _ => none
/-- All elements have n cells. -/
def sizedAll (n : Nat) : List PV → Bool
  | [] => true
  | x :: t => x.cells.length == n && sizedAll n t
def cutStr (s : ByteArray) : Option (Nat × Nat) → Option TV
  | some (l, h) => some (.val (.string (s.extract l h)))
  | none => none
def cutSl (xs : List PV) : Option (Nat × Nat) → Option TV
  | some (l, h) => some (.sl ((xs.take h).drop l))
  | none => none
def cutNil : Option (Nat × Nat) → Option TV
  | some _ => some .nil
  | none => none
def cutRow (k off : Nat) : Option (Nat × Nat) → Option TV
  | some (l, h) => some (.row k (off + l) (h - l))
  | none => none
def sliceTV (so : Store) (t : TypeId) (lo hi mx : Option (Option TV)) (v : TV) : Option TV :=
  match P.underlying t, v with
  | some .string, .val (.string s) => match mx with
    | none => cutStr s (bounds s.size lo hi none)
    | some _ => none
  | some (.slice e), .sl xs => match sizeT P e with
    | some n => if sizedAll n xs then cutSl xs (bounds xs.length lo hi mx) else none
    | none => none
  | some (.slice e), .nil => if (sizeT P e).isSome then cutNil (bounds 0 lo hi mx) else none
  | some (.slice e), .row k off len => match mx, so.get k with
    | none, some (.row e' _) => if e' = e then cutRow k off (bounds len lo hi none) else none
    | _, _ => none
  | _, _ => none
def indexAddrTV (so : Store) (t : TypeId) (v : TV) (i : Option TV) : Option TV :=
  match (i.bind intOf?) with
  | none => none
  | some i => match P.underlying t, v with
    | some (.slice e), .sl xs => if 0 ≤ i ∧ i < xs.length then match xs[i.toNat]? with
        | some x => if sizeT P e = some x.cells.length then some (.rd x.cells) else none
        | none => none
      else none
    | some (.slice e), .row k off len => match so.get k with
      | some (.row e' _) => if e' = e ∧ 0 ≤ i ∧ i < len then some (.ptr k (off + i.toNat) 0) else none
      | _ => none
    | some (.array n e), .ptr k j off => if 0 ≤ i ∧ i < n then (sizeT P e).map fun s => .ptr k j (off + i.toNat * s) else none
    | _, _ => none
def indexTV (t : TypeId) (v : TV) (i : Option TV) : Option TV :=
  match (i.bind intOf?) with
  | none => none
  | some i => match P.underlying t, v with
    | some .string, .val (.string s) => if 0 ≤ i then match s[i.toNat]? with
        | some b => some (.val (.int .u8 b.toNat))
        | none => none
      else none
    | some (.array n e), .agg cs => if 0 ≤ i ∧ i < n ∧ sizeT P e = some 1 ∧ isAggT P e = some false then told (nth cs i.toNat) else none
    | _, _ => none
def fieldAddrTV (s : TypeId) (f : Nat) (v : TV) : Option TV :=
  match fieldT P s f with
  | none => none
  | some fd => match sizeT P fd.type with
    | none => none
    | some n => if n = 0 then none else match v with
      | .ptr k i off => some (.ptr k i (off + fd.offset))
      | .rd cs => some (.rd (cs.drop fd.offset))
      | _ => none
def fieldTV (s : TypeId) (f : Nat) (v : TV) : Option TV :=
  match fieldT P s f, v with
  | some fd, .agg cs => takeCells P fd.type (cs.drop fd.offset)
  | _, _ => none
def putCells : List TV → Nat → List TV → List TV
  | cs, _, [] => cs
  | cs, i, v :: vs => putCells (cs.set i v) (i + 1) vs
def fillTV (s : TypeId) : List TV → List (Nat × Option TV) → Option (List TV)
  | cs, [] => some cs
  | cs, (i, some v) :: rest => match fieldT P s i with
    | some fd => if oneAll v.cells = true ∧ sizeT P fd.type = some v.cells.length ∧ fd.offset + v.cells.length ≤ cs.length then fillTV s (putCells cs fd.offset v.cells) rest else none
    | none => none
  | _, (_, none) :: _ => none
/-- A struct type's zero cells; its fields' sizes are known. -/
def structZ (t : TypeId) : Option (List TV) :=
  match P.underlying t, zeroT P t with
  | some (.struct fs), some (.agg z) => if fs.toList.all (fun f => (sizeT P f.type).isSome) then some z else none
  | _, _ => none
def aggT : Option (List TV) → Option TV
  | some cs => some (.agg cs)
  | none => none
def buildTV (t : TypeId) (parts : List (Nat × Option TV)) : Option TV :=
  match structZ P t with
  | some z => aggT (fillTV P t z parts)
  | none => none
def consO (x : PV) : Option (List PV) → Option (List PV)
  | some xs => some (x :: xs)
  | none => none
def litXs (n : Nat) (so : Store) : Nat → List (Nat × Option TV) → Option (List PV)
  | _, [] => some []
  | j, (i, some v) :: rest => if i = j then match toPV so v with
      | some x => if x.cells.length = n then consO x (litXs n so (j + 1) rest) else none
      | none => none
    else none
  | _, (_, none) :: _ => none
def rowSize (e : TypeId) : Option Nat := match sizeT P e with
  | some n => if n = 0 then none else some n
  | none => none
def litTV (so : Store) (t : TypeId) (len : Nat) (parts : List (Nat × Option TV)) : Option (List PV) :=
  match elemT P t with
  | none => none
  | some e => match rowSize P e, zeroT P e with
    | some n, some _ => if len = parts.length ∧ len * n ≤ 16777216 then litXs n so 0 parts else none
    | _, _ => none

def argsPV (so : Store) : List (Option TV) → Option (List PV)
  | [] => some []
  | some v :: t => (match toPV so v, argsPV so t with
    | some x, some xs => some (x :: xs)
    | _, _ => none)
  | none :: _ => none
def goFunc : Callee → Option FuncId
  | .value (.func f) => some f
  | _ => none

/-! Each kind of operation, out of its operands: named functions, so that simp sees no lambda. -/
def slO : Option (List PV) → Option TV
  | some xs => some (.sl xs)
  | none => none
def tupO : Option (List PV) → Option TV
  | some rs => some (tupTV rs)
  | none => none
def opBin (op : BinOp) (t : TypeId) : Option TV → Option TV → Option TV
  | some a, some b => valO (binTV P op t a b)
  | _, _ => none
def opUn (op : UnOp) : Option TV → Option TV
  | some a => valO (unTV op a)
  | none => none
def opConv (so : Store) (src dst : TypeId) : Option TV → Option TV
  | some a => convTV P so src dst a
  | none => none
def opExtract (i : Nat) : Option TV → Option TV
  | some (.tup ts) => told (nth ts i)
  | _ => none
def opNil : Option TV → Option TV
  | some (.ptr k i off) => some (.ptr k i off)
  | some (.rd cs) => some (.rd cs)
  | _ => none
def opFieldAddr (s : TypeId) (f : Nat) : Option TV → Option TV
  | some v => fieldAddrTV P s f v
  | none => none
def opField (s : TypeId) (f : Nat) : Option TV → Option TV
  | some v => fieldTV P s f v
  | none => none
def opLoad (so : Store) (t : TypeId) : Option TV → Option TV
  | some v => loadTV P so t v
  | none => none
def opIndexAddr (so : Store) (t : TypeId) : Option TV → Option TV → Option TV
  | some v, i => indexAddrTV P so t v i
  | none, _ => none
def opIndex (t : TypeId) : Option TV → Option TV → Option TV
  | some v, i => indexTV P t v i
  | none, _ => none
def opSlice (so : Store) (t : TypeId) (lo hi mx : Option (Option TV)) : Option TV → Option TV
  | some v => sliceTV P so t lo hi mx v
  | none => none
def callO (callA : FuncId → List PV → Option (List PV)) (f : FuncId) : Option (List PV) → Option TV
  | some xs => tupO (callA f xs)
  | none => none
def rdParts (ρ : Operand → Option TV) : List (Nat × Operand) → List (Nat × Option TV)
  | [] => []
  | (i, x) :: t => (i, ρ x) :: rdParts ρ t
def rdArgs (ρ : Operand → Option TV) : List Operand → List (Option TV)
  | [] => []
  | x :: t => ρ x :: rdArgs ρ t
def rdOpt (ρ : Operand → Option TV) : Option Operand → Option (Option TV)
  | some x => some (ρ x)
  | none => none
def rowsIn1 : TV → List Nat
  | .row k _ _ => [k]
  | _ => []
def rowsIn : TV → List Nat
  | .agg cs => cs.flatMap rowsIn1
  | v => rowsIn1 v
def partRows : List (Nat × Option TV) → List Nat
  | [] => []
  | (_, some v) :: t => rowsIn v ++ partRows t
  | (_, none) :: t => partRows t
/-- A row that is made as a list: what is in it leads to no row of the call's own. -/
def litS (so : Store) (t : TypeId) (len : Nat) (parts : List (Nat × Option TV)) : Option TV := match partRows parts with
  | [] => slO (litTV P so t len parts)
  | _ :: _ => none
def evCall (callA : FuncId → List PV → Option (List PV)) (so : Store) (tys : List TypeId) (xs : List (Option TV)) : Callee → Option TV
  | .builtin b => bltTV P b tys xs
  | .value (.func f) => callO callA f (argsPV so xs)
  | _ => none
/-- What an operation yields that writes nothing: out of its operands and the store. -/
def evVal (callA : FuncId → List PV → Option (List PV)) (ρ : Operand → Option TV) (so : Store) : Op → Option TV
  | .move x => ρ x
  | .assign x => ρ x
  | .pick c a b => pick? (ρ c) (ρ a) (ρ b)
  | .binOp op t x y _ => opBin P op t (ρ x) (ρ y)
  | .unOp op _ x => opUn op (ρ x)
  | .convert src dst x => opConv P so src dst (ρ x)
  | .extract x i => opExtract i (ρ x)
  | .nilCheck x => opNil (ρ x)
  | .fieldAddr s x f => opFieldAddr P s f (ρ x)
  | .field s x f => opField P s f (ρ x)
  | .load t x => opLoad P so t (ρ x)
  | .indexAddr t x i => opIndexAddr P so t (ρ x) (ρ i)
  | .index t x i => opIndex P t (ρ x) (ρ i)
  | .slice t x lo hi mx => opSlice P so t (rdOpt ρ lo) (rdOpt ρ hi) (rdOpt ρ mx) (ρ x)
  | .build t parts => buildTV P t (rdParts ρ parts.toList)
  | .buildSlice t len parts => litS P so t len (rdParts ρ parts.toList)
  | .call c => evCall P callA so c.argTypes.toList (rdArgs ρ c.args.toList) c.callee
  | _ => none
end

/-! ### What writes -/
/-- A slot's references turned, cell by cell. -/
def map2 (f : TV → TV) : TV → TV
  | .agg cs => .agg (cs.map f)
  | v => f v
def map3 (f : TV → TV) : TV → TV
  | .tup ts => .tup (ts.map (map2 f))
  | v => map2 f v
def kill1 (k : Nat) : TV → TV
  | .row j off len => if j = k then .undef else .row j off len
  | .ptr j i off => if j = k then .undef else .ptr j i off
  | v => v
def seal1 (k : Nat) (xs : List PV) : TV → TV
  | .row j off len => if j = k then (if off + len ≤ xs.length then .sl ((xs.drop off).take len) else .undef) else .row j off len
  | .ptr j i off => if j = k then .undef else .ptr j i off
  | v => v
def name1 (k n : Nat) : TV → TV
  | .row j off len => if j = k then .row n off len else .row j off len
  | .ptr j i off => if j = k then .ptr n i off else .ptr j i off
  | v => v
def mapSo (f : TV → TV) : Store → Store
  | [] => []
  | (j, .box cs) :: t => (j, .box (cs.map f)) :: mapSo f t
  | (j, .row e xs) :: t => (j, .row e xs) :: mapSo f t
def St.turn (st : St) (f : TV → TV) (so : Store) : St := { tm := st.tm.map (map3 f), sus := st.sus.map fun l => l.map (map3 f), so := mapSo f so }
/-- What is named k is forgotten. -/
def St.kill (st : St) (k : Nat) : St := match st.so.get k with
  | none => st
  | some _ => st.turn (kill1 k) (st.so.del k)
/-- The row k is written no more: it is a list from now on. -/
def St.close (st : St) (k : Nat) : St := match st.so.get k with
  | some (.row _ xs) => st.turn (seal1 k xs) (st.so.del k)
  | _ => st
def St.name (st : St) (k n : Nat) : St := if k = n then st else match (st.kill n).so.get k with
  | none => st.kill n
  | some o => let st1 := st.kill n; St.turn { st1 with so := (st1.so.del k).ins n o } (name1 k n) ((st1.so.del k).ins n o)
def St.put (st : St) (dst : Option Tmp) (v : TV) : St := match dst with
  | some d => { tm := setN st.tm d v, sus := st.sus, so := st.so }
  | none => st
def St.withSo (st : St) (so : Store) : St := { tm := st.tm, sus := st.sus, so := so }
def St.new (st : St) (k : Nat) (o : SO) : St := (st.kill k).withSo ((st.kill k).so.ins k o)
def sealAll : List Nat → St → St
  | [], st => st
  | k :: ks, st => sealAll ks (st.close k)
def hasSl1 : PV → Bool
  | .sl _ => true
  | .fn _ _ => true
  | _ => false
def hasSl : PV → Bool
  | .agg cs => cs.any hasSl1
  | v => hasSl1 v
/-- Rows that are stored into a variable take their names from their places. -/
def nameCells (kb : Nat) : Nat → List TV → St → St
  | _, [], st => st
  | c, .row k _ _ :: t, st => nameCells kb (c + 1) t (st.name k (100000 + 64 * kb + c))
  | c, _ :: t, st => nameCells kb (c + 1) t st
def mkPV (old : PV) (cs : List PV) : Option PV := match old, cs with
  | .agg _, cs => some (.agg cs)
  | _, [v] => some v
  | _, _ => none
def putPV : List PV → Nat → List PV → List PV
  | cs, _, [] => cs
  | cs, i, v :: vs => putPV (cs.set i v) (i + 1) vs
section
variable (P : Program)
def rowO (so : Store) (k : Nat) (e : TypeId) (xs : List PV) (i : Nat) : Option PV → Option Store
  | some z => some (so.ins k (.row e (xs.set i z)))
  | none => none
/-- A store into a variable, or into a row's element, of what leads to no row of the call's own. -/
def storeSo (so : Store) (t : TypeId) (a v : TV) : Option Store := match a with
  | .ptr k i off => if oneAll v.cells = true ∧ sizeT P t = some v.cells.length then match so.get k with
    | some (.box cs) => if i = 0 ∧ off + v.cells.length ≤ cs.length then some (so.ins k (.box (putCells cs off v.cells))) else none
    | some (.row e xs) => match xs[i]?, toPV so v with
      | some x, some y => if off + y.cells.length ≤ x.cells.length then rowO so k e xs i (mkPV x (putPV x.cells off y.cells)) else none
      | _, _ => none
    | none => none
    else none
  | _ => none
def isBoxAt (so : Store) : TV → Option (Nat × Nat)
  | .ptr k _ off => match so.get k with
    | some (.box _) => some (k, off)
    | _ => none
  | _ => none
def withO (st : St) : Option Store → Option St
  | some so => some (st.withSo so)
  | none => none
def nameO (k off : Nat) (vs : List TV) : Option St → Option St
  | some st => some (nameCells k off vs st)
  | none => none
def storePV (t : TypeId) (a : TV) (st : St) : Option PV → Option St
  | some y => withO st (storeSo P st.so t a y.tv)
  | none => none
def evStore (st : St) (t : TypeId) : Option TV → Option TV → Option St
  | some a, some v => match rowsIn v with
    | [] => withO st (storeSo P st.so t a v)
    | k :: ks => match isBoxAt st.so a with
      | some (kb, off) => nameO kb off v.cells (withO st (storeSo P st.so t a v))
      | none => storePV P t a (sealAll (k :: ks) st) (toPV st.so v)
  | _, _ => none
def zeroPV (so : Store) (e : TypeId) : Option PV := match zeroT P e with
  | some z => toPV so z
  | none => none
/-- The base of an append: what it holds, and its name. -/
def baseOf (so : Store) (e : TypeId) : TV → Option (List PV × Option Nat)
  | .nil => some ([], none)
  | .row k off len => match so.get k with
    | some (.row e' xs) => if e' = e ∧ off = 0 ∧ len = xs.length then some (xs, some k) else none
    | _ => none
  | _ => none
def isStr (t : TypeId) : Bool := match P.underlying t with | some .string => true | _ => false
/-- Bytes, as a string's are. -/
def byteOk (e : TypeId) : Bool := isU8 P e && match P.info? e with
  | some i => i.size == 1 && i.bytes == 1 && match i.zero with
    | some (.int .u8 0) => true
    | _ => false
  | none => false
def moreOf (so : Store) (t u e : TypeId) : TV → Option (List PV)
  | .val (.string s) => if byteOk P e = true ∧ isStr P u = true then some (u8s s) else none
  | v => if u = t then elems so v else none
def killOpt (st : St) : Option Nat → St
  | some k => st.kill k
  | none => st
def evAppend (st : St) (key d : Nat) (t u : TypeId) : Option TV → Option TV → Option St
  | some s, some x => match elemT P t with
    | some e => match bytesT P e, rowSize P e, zeroPV P st.so e with
      | some b, some n, some z => match baseOf st.so e s, moreOf P st.so t u e x with
        | some (xs, k), some ys => if z.cells.length = n ∧ sizedAll n ys = true ∧ xs.length + ys.length ≤ 9223372036854775807 ∧ (xs.length + ys.length) * b ≤ 140737488355328 then
            some (((killOpt st k).new key (.row e (xs ++ ys))).put (some d) (.row key 0 (xs.length + ys.length))) else none
        | _, _ => none
      | _, _, _ => none
    | none => none
  | _, _ => none
def evMake (st : St) (key d : Nat) (t : TypeId) : Option TV → Option TV → Option St
  | some (.val (.int .i64 n)), some (.val (.int .i64 m)) => match elemT P t with
    | some e => match bytesT P e, rowSize P e, zeroPV P st.so e with
      | some b, some s, some z => if z.cells.length = s ∧ 0 ≤ n ∧ n ≤ m ∧ m ≤ 9223372036854775807 ∧ m * b ≤ 281474976710656 then
          some ((st.new key (.row e (List.replicate n.toNat z))).put (some d) (.row key 0 n.toNat)) else none
      | _, _, _ => none
    | none => none
  | _, _ => none
def evCopy (st : St) (dst : Option Tmp) (t u : TypeId) : Option TV → Option TV → Option St
  | some (.row k off len), some x => match elemT P t with
    | some e => match st.so.get k, moreOf P st.so t u e x, rowSize P e with
      | some (.row e' xs), some ys, some n => if e' = e ∧ off + len ≤ xs.length ∧ sizedAll n ys = true then
          some ((st.withSo (st.so.ins k (.row e (xs.take off ++ ys.take len ++ xs.drop (off + min ys.length len))))).put dst (.val (.int .i64 (min ys.length len : Nat)))) else none
      | _, _, _ => none
    | none => none
  | _, _ => none
structure Dat where
  callA : FuncId → List PV → Option (List PV)
  callB : FuncId → List (Option TV) → Nat → St → Option (List TV × St)
  /-- functions that are handed variables of the caller's -/
  modeB : FuncId → Bool
def rowsOf : List (Option TV) → List Nat
  | [] => []
  | some v :: t => rowsIn v ++ rowsOf t
  | none :: t => rowsOf t
def anySl : List PV → Bool
  | [] => false
  | v :: t => hasSl v || anySl t
/-- What is handed over may come back as a part of the result: then it is written no more. -/
def sealCall (st : St) (xs : List (Option TV)) (rs : List PV) : St := match anySl rs with
  | true => sealAll (rowsOf xs) st
  | false => st
def tupB : List TV → TV
  | [v] => v
  | vs => .tup vs
def putO (st : St) (dst : Option Tmp) : Option TV → Option St
  | some v => some (st.put dst v)
  | none => none
def putU (dst : Option Tmp) : Option St → Option St
  | some st => some (st.put dst .undef)
  | none => none
def putB (dst : Option Tmp) : Option (List TV × St) → Option St
  | some (vs, st) => some (st.put dst (tupB vs))
  | none => none
def putA (st : St) (dst : Option Tmp) (xs : List (Option TV)) : Option (List PV) → Option St
  | some rs => some ((sealCall st xs rs).put dst (tupTV rs))
  | none => none
def callS (D : Dat) (f : FuncId) : Option (List PV) → Option (List PV)
  | some xs => D.callA f xs
  | none => none
def newLit (st : St) (key d : Nat) (ks : List Nat) : Option TypeId → Option (List PV) → Option St
  | some e, some xs => some (((sealAll ks st).new key (.row e xs)).put (some d) (.row key 0 xs.length))
  | _, _ => none
def newBox (st : St) (key d : Nat) (sz : Option Nat) : Option TV → Option St
  | some v => if oneAll v.cells = true ∧ sz = some v.cells.length then some ((st.new key (.box v.cells)).put (some d) (.ptr key 0 0)) else none
  | none => none
def evBlt (st : St) (base : Nat) (dst : Option Tmp) (tys : List TypeId) (xs : List (Option TV)) : Builtin → Option St
  | .append => match dst, tys, xs with
    | some d, [t, u], [s, x] => evAppend P st (base + d) d t u s x
    | _, _, _ => none
  | .copy => match tys, xs with
    | [t, u], [d, s] => evCopy P st dst t u d s
    | _, _ => none
  | b => putO st dst (bltTV P b tys xs)
def evGo (D : Dat) (base : Nat) (dst : Option Tmp) (f : FuncId) (xs : List (Option TV)) (st : St) : Option St := match D.modeB f with
  | true => putB dst (D.callB f xs (base + 1000) st)
  | false => putA st dst xs (callS D f (argsPV st.so xs))
def evCallS (D : Dat) (base : Nat) (dst : Option Tmp) (tys : List TypeId) (xs : List (Option TV)) (st : St) : Callee → Option St
  | .builtin b => evBlt P st base dst tys xs b
  | .value (.func f) => evGo D base dst f xs st
  | _ => none
/-- One operation outside of the regions that draw their order. -/
def evOp (D : Dat) (base : Nat) (dst : Option Tmp) (st : St) : Op → Option St
  | .store t a x => putU dst (evStore P st t (rdv st.tm a) (rdv st.tm x))
  | .alloc t => match dst with
    | some d => newBox st (base + d) d (sizeT P t) (zeroT P t)
    | none => none
  | .box t x => match dst with
    | some d => newBox (st.kill (base + d)) (base + d) d (sizeT P t) (rdv (st.kill (base + d)).tm x)
    | none => none
  | .buildSlice t len parts => match dst with
    | some d => newLit st (base + d) d (partRows (rdParts (rdv st.tm) parts.toList)) (elemT P t) (litTV P st.so t len (rdParts (rdv st.tm) parts.toList))
    | none => none
  | .makeSlice t l c => match dst with
    | some d => evMake P st (base + d) d t (rdv st.tm l) (rdv st.tm c)
    | none => none
  | .call c => evCallS P D base dst c.argTypes.toList (rdArgs (rdv st.tm) c.args.toList) st c.callee
  | op => putO st dst (evVal P D.callA (rdv st.tm) st.so op)
def evStep (D : Dat) (base : Nat) (o : Oper) (st : St) : Option St := evOp P D base o.dst st o.op

/-! ### Code -/
def guardDst (ops : Array Oper) (j : Nat) : Option Tmp := (ops[j]?).bind (·.dst)
def testTV (b : Bool) : TV → Option Bool
  | .val (.bool c) => some (c == b)
  | .skip => some false
  | _ => none
/-- Is the operation carried out? (none: not told) -/
def wantedE (ops : Array Oper) (tm : List TV) : Option (Nat × Bool) → Option Bool
  | none => some true
  | some (j, b) => match guardDst ops j with
    | none => some false
    | some t => testTV b (nth tm t)
def evOps {R : Type} (step : Oper → St → Option St) (ops : Array Oper) : List Oper → St → (St → Option R) → Option R
  | [], st, k => k st
  | o :: rest, st, k => match wantedE ops st.tm o.guard with
    | none => none
    | some true => match step o st with
      | some st1 => evOps step ops rest st1 k
      | none => none
    | some false => evOps step ops rest (st.put o.dst .skip) k

def loopN {R : Type} (step : St → (St → Option R) → Option R) : Nat → St → Option R
  | 0, _ => none
  | n + 1, st => step st (loopN step n)

/-! A region that draws its order: what isn't ordered must be independent. -/
/-- 0: out of the operands alone · 1: reads the store · 2: a plain store · 3: whatever else -/
def cls (mb : FuncId → Bool) (o : Oper) : Nat := match o.op with
  | .store .. => 2
  | .load .. | .convert .. | .buildSlice .. | .indexAddr .. | .slice .. => 1
  | .box .. | .makeSlice .. => 3
  | .call c => match c.callee with
    | .builtin .append | .builtin .copy => 3
    | .builtin _ => 0
    | .value (.func f) => if mb f then 3 else 1
    | _ => 3
  | _ => 0
def clsOk (a b : Nat) : Bool := (a == 0 && b ≤ 2) || (b == 0 && a ≤ 2) || (a ≤ 1 && b ≤ 1)
def okPair (mb : FuncId → Bool) (ops : Array Oper) (x y : Oper) : Bool := x.apart ops y && clsOk (cls mb x) (cls mb y)
def nthL : List (List Nat) → Nat → List Nat
  | [], _ => []
  | l :: _, 0 => l
  | _ :: t, n + 1 => nthL t n
def ancE (acc : List (List Nat)) : List Edge → List Nat
  | [] => []
  | e :: t => if Region.binds .any e then e.on :: (nthL acc e.on ++ ancE acc t) else ancE acc t
/-- Who must come ahead of each. -/
def ancs : List (List Nat) → List Oper → List (List Nat)
  | acc, [] => acc
  | acc, o :: t => ancs (acc ++ [ancE acc o.after.toList]) t
def backOk : Nat → List Oper → Bool
  | _, [] => true
  | i, o :: t => o.after.toList.all (fun e => !Region.binds .any e || decide (e.on < i)) && backOk (i + 1) t
def pairsOk (mb : FuncId → Bool) (ops : Array Oper) (as : List (List Nat)) : Bool :=
  (List.range ops.size).all fun i => (List.range i).all fun j => (nthL as i).contains j || match ops[i]?, ops[j]? with
    | some x, some y => okPair mb ops y x
    | _, _ => true
/-- Where a region's variables go. -/
def allocDsts : List Oper → List Nat
  | [] => []
  | o :: t => match o.op, o.dst with
    | .alloc _, some d => d :: allocDsts t
    | _, _ => allocDsts t
def nodup : List Nat → Bool
  | [] => true
  | x :: t => !t.contains x && nodup t
def noThree (mb : FuncId → Bool) : List Oper → Bool
  | [] => true
  | o :: t => cls mb o ≤ 2 && noThree mb t
def okDraw (mb : FuncId → Bool) (ops : Array Oper) : Bool :=
  backOk 0 ops.toList && pairsOk mb ops (ancs [] ops.toList) && (match allocDsts ops.toList with
    | [] => true
    | d :: ds => nodup (d :: ds) && noThree mb ops.toList)
/-- The variables that such a region makes are laid ahead of it. -/
def killAll (base : Nat) : List Nat → St → St
  | [], st => st
  | d :: t, st => killAll base t (st.kill (base + d))
def layAll (base : Nat) : List Oper → St → Option St
  | [], st => some st
  | o :: t, st => match o.op with
    | .alloc ty => match o.dst, zeroT P ty with
      | some d, some z => if oneAll z.cells then layAll base t (st.withSo (st.so.ins (base + d) (.box z.cells))) else none
      | _, _ => none
    | _ => layAll base t st
def preAlloc (base : Nat) (l : List Oper) (st : St) : Option St := layAll P base l (killAll base (allocDsts l) st)
def argRows : List (Option TV) → Bool
  | [] => false
  | some v :: t => (match rowsIn v with | [] => argRows t | _ :: _ => true)
  | none :: t => argRows t
def callD (D : Dat) (rows : Bool) (f : FuncId) (xs : List PV) : Option (List PV) := match D.callA f xs with
  | some rs => (match rows, anySl rs with | true, true => none | _, _ => some rs)
  | none => none
def storeD (st : St) (t : TypeId) : Option TV → Option TV → Option St
  | some a, some v => match rowsIn v with
    | [] => withO st (storeSo P st.so t a v)
    | _ :: _ => none
  | _, _ => none
def evOpD (D : Dat) (base : Nat) (dst : Option Tmp) (st : St) : Op → Option St
  | .store t a x => putU dst (storeD P st t (rdv st.tm a) (rdv st.tm x))
  | .alloc _ => match dst with
    | some d => some (st.put (some d) (.ptr (base + d) 0 0))
    | none => none
  | .call c => match c.callee with
    | .value (.func f) => (match D.modeB f with
      | true => none
      | false => putO st dst (evCall P (callD D (argRows (rdArgs (rdv st.tm) c.args.toList))) st.so c.argTypes.toList (rdArgs (rdv st.tm) c.args.toList) c.callee))
    | cal => evCallS P D base dst c.argTypes.toList (rdArgs (rdv st.tm) c.args.toList) st cal
  | op => putO st dst (evVal P D.callA (rdv st.tm) st.so op)
def evStepD (D : Dat) (base : Nat) (o : Oper) (st : St) : Option St := evOpD P D base o.dst st o.op

/-- kn: what follows; ke: what follows an exit; kr: what follows a return. -/
def evC {R : Type} (D : Dat) (base n : Nat) : Code → St → (St → Option R) → (Nat → St → Option R) → (St → Option R) → Option R
  | .skip, st, kn, _, _ => kn st
  | .region _ ops draw, st, kn, _, _ => match draw with
    | true => match okDraw D.modeB ops, preAlloc P base ops.toList st with
      | true, some st1 => evOps (evStepD P D base) ops ops.toList st1 kn
      | _, _ => none
    | false => evOps (evStep P D base) ops ops.toList st kn
  | .seq a b, st, kn, ke, kr => evC D base n a st (fun st1 => evC D base n b st1 kn ke kr) ke kr
  | .cond c a b, st, kn, ke, kr => match rdv st.tm c with
    | some (.val (.bool true)) => evC D base n a st kn ke kr
    | some (.val (.bool false)) => evC D base n b st kn ke kr
    | _ => none
  | .block id c, st, kn, ke, kr => evC D base n c st kn (fun j st1 => if j = id then kn st1 else ke j st1) kr
  | .loop c, st, _, ke, kr => loopN (fun st1 again => evC D base n c st1 again ke kr) n st
  | .exit id, st, _, ke, _ => ke id st
  | .ret, st, _, _, kr => kr st
  | _, _, _, _, _ => none

/-! ### Functions -/
def readRes (st : St) : ResultVar → Option TV
  | .tmp t => told (nth st.tm t)
  | .cell a t => opLoad P st.so t (told (nth st.tm a))
def readAll (st : St) : List ResultVar → Option (List TV)
  | [] => some []
  | r :: t => match readRes P st r, readAll st t with
    | some v, some vs => some (v :: vs)
    | _, _ => none
def toPVs (so : Store) : List TV → Option (List PV)
  | [] => some []
  | v :: t => match toPV so v, toPVs so t with
    | some x, some xs => some (x :: xs)
    | _, _ => none
def pvsO (so : Store) : Option (List TV) → Option (List PV)
  | some vs => toPVs so vs
  | none => none
def frame (nt : Nat) (args : List TV) : List TV := args ++ List.replicate (nt - args.length) .undef
def endA (rs : List ResultVar) (st : St) : Option (List PV) := pvsO st.so (readAll P st rs)
def tvs : List PV → List TV
  | [] => []
  | v :: t => v.tv :: tvs t
def runA (D : Dat) (n : Nat) (nt : Nat) (rs : List ResultVar) (c : Code) (args : List PV) : Option (List PV) :=
  evC P D 0 n c { tm := frame nt (tvs args), sus := [], so := [] } (endA P rs) (fun _ _ => none) (endA P rs)
def noTup : List TV → Bool
  | [] => true
  | .tup _ :: _ => false
  | _ :: t => noTup t
def backB (st : St) : Option (List TV) → Option (List TV × St)
  | some vs => match noTup vs, st.sus with
    | true, tm :: sus => some (vs, { tm := tm, sus := sus, so := st.so })
    | _, _ => none
  | none => none
def endB (rs : List ResultVar) (st : St) : Option (List TV × St) := backB st (readAll P st rs)
def runB (D : Dat) (n : Nat) (nt : Nat) (rs : List ResultVar) (c : Code) (args : List TV) (base : Nat) (st : St) : Option (List TV × St) :=
  evC P D base n c { tm := frame nt args, sus := st.tm :: st.sus, so := st.so } (endB P rs) (fun _ _ => none) (endB P rs)
/-- Functions whose contracts are proved apart, and functions that are handed variables. -/
structure Given where
  fn : FuncId → Option (List PV → Option (List PV))
  modeB : FuncId → Bool
def callAof (G : Given) (D : Dat) (n : Nat) (f : FuncId) (args : List PV) : Option (List PV) := match G.fn f with
  | some g => g args
  | none => match P.funcs[f]? with
    | some fn => match fn.body with
      | some c => if args.length = fn.params.size ∧ fn.nfree = 0 then runA P D n fn.ntmps fn.results.toList c args else none
      | none => none
    | none => none
def callBof (D : Dat) (n : Nat) (f : FuncId) (args : List (Option TV)) (base : Nat) (st : St) : Option (List TV × St) := match P.funcs[f]?, allSome args with
  | some fn, some args => match fn.body with
    | some c => if args.length = fn.params.size ∧ fn.nfree = 0 then runB P D n fn.ntmps fn.results.toList c args base st else none
    | none => none
  | _, _ => none
def ev (G : Given) : Nat → Dat
  | 0 => { callA := fun _ _ => none, callB := fun _ _ _ _ => none, modeB := G.modeB }
  | n + 1 => { callA := callAof P G (ev G n) (n + 1), callB := callBof P (ev G n) (n + 1), modeB := G.modeB }
end
end Go.Proofs.YtlhjljplfmmoaaaGreatDoor.Ev
/- The evaluator's continuations as plain data: the rules by which a function's code is gone through by simp. -/
namespace Go.Proofs.YtlhjljplfmmoaaaGreatDoor.Ev
open Go

inductive Kn where
  | top
  | seq (b : Code) (k : Kn)
  | blk (id : Nat) (k : Kn)
  | again (m : Nat) (c : Code) (k : Kn)

section
variable {R : Type} (P : Program) (D : Dat) (base n : Nat) (F : St → Option R)
mutual
def nrmK : Kn → St → Option R
  | .top, st => F st
  | .seq b k, st => evC P D base n b st (nrmK k) (extK k) F
  | .blk _ k, st => nrmK k st
  | .again m c k, st => loopN (fun st1 again => evC P D base n c st1 again (extK k) F) m st
def extK : Kn → Nat → St → Option R
  | .top, _, _ => none
  | .seq _ k, j, st => extK k j st
  | .blk id k, j, st => if j = id then nrmK k st else extK k j st
  | .again _ _ k, j, st => extK k j st
end
/-- The code c from st on, and then k. -/
def run (c : Code) (st : St) (k : Kn) : Option R := evC P D base n c st (nrmK P D base n F k) (extK P D base n F k) F
def loopK (m : Nat) (c : Code) (st : St) (k : Kn) : Option R := nrmK P D base n F (.again m c k) st
def opsK (ops : Array Oper) (l : List Oper) (st : St) (k : Kn) : Option R := evOps (evStep P D base) ops l st (nrmK P D base n F k)
def opsD (ops : Array Oper) (l : List Oper) (st : St) (k : Kn) : Option R := evOps (evStepD P D base) ops l st (nrmK P D base n F k)
def testK (b : Option Bool) (ops : Array Oper) (o : Oper) (rest : List Oper) (st : St) (k : Kn) : Option R := match b with
  | none => none
  | some true => match evStep P D base o st with
    | some st1 => opsK P D base n F ops rest st1 k
    | none => none
  | some false => opsK P D base n F ops rest (st.put o.dst .skip) k
def testD (b : Option Bool) (ops : Array Oper) (o : Oper) (rest : List Oper) (st : St) (k : Kn) : Option R := match b with
  | none => none
  | some true => match evStepD P D base o st with
    | some st1 => opsD P D base n F ops rest st1 k
    | none => none
  | some false => opsD P D base n F ops rest (st.put o.dst .skip) k
def stepK (x : Option St) (ops : Array Oper) (rest : List Oper) (k : Kn) : Option R := match x with
  | some st => opsK P D base n F ops rest st k
  | none => none
def stepD (x : Option St) (ops : Array Oper) (rest : List Oper) (k : Kn) : Option R := match x with
  | some st => opsD P D base n F ops rest st k
  | none => none
def condK (b : Option TV) (x y : Code) (st : St) (k : Kn) : Option R := match b with
  | some (.val (.bool true)) => run P D base n F x st k
  | some (.val (.bool false)) => run P D base n F y st k
  | _ => none
def drawK (b : Bool) (x : Option St) (ops : Array Oper) (k : Kn) : Option R := match b, x with
  | true, some st => opsD P D base n F ops ops.toList st k
  | _, _ => none
variable {P D base n F}
theorem run_skip (st : St) (k : Kn) : run P D base n F .skip st k = nrmK P D base n F k st := rfl
theorem run_seq (a b : Code) (st : St) (k : Kn) : run P D base n F (.seq a b) st k = run P D base n F a st (.seq b k) := by
  simp only [run, evC]
  congr 1
theorem run_region (id : Nat) (ops : Array Oper) (st : St) (k : Kn) : run P D base n F (.region id ops false) st k = opsK P D base n F ops ops.toList st k := rfl
theorem run_draw (id : Nat) (ops : Array Oper) (st : St) (k : Kn) : run P D base n F (.region id ops true) st k = drawK P D base n F (okDraw D.modeB ops) (preAlloc P base ops.toList st) ops k := rfl
theorem run_cond (c : Operand) (a b : Code) (st : St) (k : Kn) : run P D base n F (.cond c a b) st k = condK P D base n F (rdv st.tm c) a b st k := rfl
theorem run_block (id : Nat) (c : Code) (st : St) (k : Kn) : run P D base n F (.block id c) st k = run P D base n F c st (.blk id k) := by
  simp only [run, evC]
  congr 1
theorem run_loop (c : Code) (st : St) (k : Kn) : run P D base n F (.loop c) st k = loopK P D base n F n c st k := rfl
theorem run_exit (id : Nat) (st : St) (k : Kn) : run P D base n F (.exit id) st k = extK P D base n F k id st := rfl
theorem run_ret (st : St) (k : Kn) : run P D base n F .ret st k = F st := rfl
theorem loop_zero (c : Code) (st : St) (k : Kn) : loopK P D base n F 0 c st k = none := rfl
theorem loop_succ (m : Nat) (c : Code) (st : St) (k : Kn) : loopK P D base n F (m + 1) c st k = run P D base n F c st (.again m c k) := rfl
theorem nrm_top (st : St) : nrmK P D base n F .top st = F st := rfl
theorem nrm_seq (b : Code) (k : Kn) (st : St) : nrmK P D base n F (.seq b k) st = run P D base n F b st k := rfl
theorem nrm_blk (id : Nat) (k : Kn) (st : St) : nrmK P D base n F (.blk id k) st = nrmK P D base n F k st := rfl
theorem nrm_again (m : Nat) (c : Code) (k : Kn) (st : St) : nrmK P D base n F (.again m c k) st = loopK P D base n F m c st k := rfl
theorem ext_seq (b : Code) (k : Kn) (j : Nat) (st : St) : extK P D base n F (.seq b k) j st = extK P D base n F k j st := rfl
theorem ext_blk (id : Nat) (k : Kn) (j : Nat) (st : St) : extK P D base n F (.blk id k) j st = if j = id then nrmK P D base n F k st else extK P D base n F k j st := rfl
theorem ext_again (m : Nat) (c : Code) (k : Kn) (j : Nat) (st : St) : extK P D base n F (.again m c k) j st = extK P D base n F k j st := rfl
theorem ops_nil (ops : Array Oper) (st : St) (k : Kn) : opsK P D base n F ops [] st k = nrmK P D base n F k st := rfl
theorem ops_cons (ops : Array Oper) (o : Oper) (rest : List Oper) (st : St) (k : Kn) : opsK P D base n F ops (o :: rest) st k = testK P D base n F (wantedE ops st.tm o.guard) ops o rest st k := rfl
theorem opsD_nil (ops : Array Oper) (st : St) (k : Kn) : opsD P D base n F ops [] st k = nrmK P D base n F k st := rfl
theorem opsD_cons (ops : Array Oper) (o : Oper) (rest : List Oper) (st : St) (k : Kn) : opsD P D base n F ops (o :: rest) st k = testD P D base n F (wantedE ops st.tm o.guard) ops o rest st k := rfl
theorem test_true (ops : Array Oper) (o : Oper) (rest : List Oper) (st : St) (k : Kn) : testK P D base n F (some true) ops o rest st k = stepK P D base n F (evOp P D base o.dst st o.op) ops rest k := rfl
theorem test_false (ops : Array Oper) (o : Oper) (rest : List Oper) (st : St) (k : Kn) : testK P D base n F (some false) ops o rest st k = opsK P D base n F ops rest (st.put o.dst .skip) k := rfl
theorem testD_true (ops : Array Oper) (o : Oper) (rest : List Oper) (st : St) (k : Kn) : testD P D base n F (some true) ops o rest st k = stepD P D base n F (evOpD P D base o.dst st o.op) ops rest k := rfl
theorem testD_false (ops : Array Oper) (o : Oper) (rest : List Oper) (st : St) (k : Kn) : testD P D base n F (some false) ops o rest st k = opsD P D base n F ops rest (st.put o.dst .skip) k := rfl
theorem step_some (st : St) (ops : Array Oper) (rest : List Oper) (k : Kn) : stepK P D base n F (some st) ops rest k = opsK P D base n F ops rest st k := rfl
theorem stepD_some (st : St) (ops : Array Oper) (rest : List Oper) (k : Kn) : stepD P D base n F (some st) ops rest k = opsD P D base n F ops rest st k := rfl
theorem cond_true (x y : Code) (st : St) (k : Kn) : condK P D base n F (some (.val (.bool true))) x y st k = run P D base n F x st k := rfl
theorem cond_false (x y : Code) (st : St) (k : Kn) : condK P D base n F (some (.val (.bool false))) x y st k = run P D base n F y st k := rfl
theorem draw_true (st : St) (ops : Array Oper) (k : Kn) : drawK P D base n F true (some st) ops k = opsD P D base n F ops ops.toList st k := rfl
/-- A test that is not decided: both ways. -/
theorem test_cases {b : Bool} {ops : Array Oper} {o : Oper} {rest : List Oper} {st : St} {k : Kn} {r : Option R} (h1 : b = true → testK P D base n F (some true) ops o rest st k = r) (h2 : b = false → testK P D base n F (some false) ops o rest st k = r) : testK P D base n F (some b) ops o rest st k = r := by
  cases b
  · exact h2 rfl
  · exact h1 rfl
theorem testD_cases {b : Bool} {ops : Array Oper} {o : Oper} {rest : List Oper} {st : St} {k : Kn} {r : Option R} (h1 : b = true → testD P D base n F (some true) ops o rest st k = r) (h2 : b = false → testD P D base n F (some false) ops o rest st k = r) : testD P D base n F (some b) ops o rest st k = r := by
  cases b
  · exact h2 rfl
  · exact h1 rfl
theorem cond_cases {b : Bool} {x y : Code} {st : St} {k : Kn} {r : Option R} (h1 : b = true → run P D base n F x st k = r) (h2 : b = false → run P D base n F y st k = r) : condK P D base n F (some (.val (.bool b))) x y st k = r := by
  cases b
  · exact h2 rfl
  · exact h1 rfl
end
section
variable {P : Program} {D : Dat} {n : Nat}
theorem runA_eq (nt : Nat) (rs : List ResultVar) (c : Code) (args : List PV) : runA P D n nt rs c args = run P D 0 n (endA P rs) c { tm := frame nt (tvs args), sus := [], so := [] } .top := rfl
theorem runB_eq (nt : Nat) (rs : List ResultVar) (c : Code) (args : List TV) (base : Nat) (st : St) : runB P D n nt rs c args base st = run P D base n (endB P rs) c { tm := frame nt args, sus := st.tm :: st.sus, so := st.so } .top := rfl
theorem callA_succ (P : Program) (G : Given) (n : Nat) (f : FuncId) (xs : List PV) : (ev P G (n + 1)).callA f xs = callAof P G (ev P G n) (n + 1) f xs := rfl
theorem modeB_ev (P : Program) (G : Given) (n : Nat) (f : FuncId) : (ev P G n).modeB f = G.modeB f := by cases n <;> rfl
/-- A function's own code. -/
theorem callA_fn {G : Given} {f : FuncId} {fn : Func} {c : Code} {args : List PV} (hG : G.fn f = none) (hf : P.funcs[f]? = some fn) (hb : fn.body = some c) (hl : args.length = fn.params.size) (hn : fn.nfree = 0) :
    (ev P G (n + 1)).callA f args = run P (ev P G n) 0 (n + 1) (endA P fn.results.toList) c { tm := frame fn.ntmps (tvs args), sus := [], so := [] } .top := by
  rw [callA_succ]
  simp only [callAof, hG, hf, hb, hl, hn, and_self, if_true]
  rfl
end
end Go.Proofs.YtlhjljplfmmoaaaGreatDoor.Ev
/- Soundness of the evaluator, part 1: what it means that a value of the machine is a value of the evaluator's, and that this lasts. -/
namespace Go.Proofs.YtlhjljplfmmoaaaGreatDoor.Ev
open Go Go.RowKit

/-- The cell v is x; what it leads to lies in S. -/
inductive Rep (S : Nat → Prop) (W : World) : PV → Value → Prop where
  | val (u : Value) : scalarV u = true → Rep S W (.val u) u
  | sl (xs : List PV) (a : Option Addr) (c s : Nat) (f : Nat → Nat → Value) : xs.length ≤ c → c ≤ maxLen → (xs ≠ [] → ∃ ad, a = some ad) → (∀ x, x ∈ xs → x.cells.length = s) →
      (∀ ad, a = some ad → ∀ i x, xs[i]? = some x → S ad.block ∧ ∀ j y, x.cells[j]? = some y → W.cell? (ad.add (i * s + j)) = some (f i j)) →
      (∀ i x j y, xs[i]? = some x → x.cells[j]? = some y → Rep S W y (f i j)) → Rep S W (.sl xs) (.slice a xs.length c)
  | fn (f : FuncId) (xs : List PV) (ad : Addr) (s : Value) : S ad.block → W.cell? ad = some s → Rep S W (.sl xs) s → Rep S W (.fn f xs) (.func (.func f) #[] #[.pointer (some ad)])

theorem Rep.step {S S' : Nat → Prop} {W W' : World} {x : PV} {v : Value} (h : Rep S W x v) (hS : ∀ k, S k → S' k ∧ (k < W.heap.size → W'.heap[k]? = W.heap[k]?)) : Rep S' W' x v := by
  induction h with
  | val u hu => exact .val u hu
  | sl xs a c s f h1 h2 h3 h4 h5 _ ih =>
    refine .sl xs a c s f h1 h2 h3 h4 (fun ad ha i x hx => ?_) ih
    obtain ⟨hs, hc⟩ := h5 ad ha i x hx
    refine ⟨(hS _ hs).1, fun j y hy => ?_⟩
    have hcell := hc j y hy
    have hlt := World.block_lt_of_cell? W _ hcell
    have hb : (ad.add (i * s + j)).block = ad.block := by unfold Addr.add; split <;> rfl
    rw [hb] at hlt
    rw [World.cell?_of_block (w := W) (w' := W') (by rw [hb]; exact (hS _ hs).2 hlt)]
    exact hcell
  | fn f xs ad s h1 h2 _ ih =>
    refine .fn f xs ad s (hS _ h1).1 ?_ ih
    rw [World.cell?_of_block (w := W) (w' := W') ((hS _ h1).2 (World.block_lt_of_cell? W _ h2))]
    exact h2

/-- A whole value: a struct's cells, or one cell. -/
def RepV (S : Nat → Prop) (W : World) : PV → Value → Prop
  | .agg cs, v => ∃ arr : Array Value, v = .agg arr ∧ arr.size = cs.length ∧ ∀ (j : Nat) (y : PV), cs[j]? = some y → ∃ u, arr[j]? = some u ∧ Rep S W y u
  | x, v => Rep S W x v
theorem RepV.step {S S' : Nat → Prop} {W W' : World} {x : PV} {v : Value} (h : RepV S W x v) (hS : ∀ k, S k → S' k ∧ (k < W.heap.size → W'.heap[k]? = W.heap[k]?)) : RepV S' W' x v := by
  cases x with
  | val u => exact Rep.step h hS
  | sl xs => exact Rep.step h hS
  | fn f xs => exact Rep.step h hS
  | agg cs =>
    obtain ⟨arr, rfl, hl, hc⟩ := h
    exact ⟨arr, rfl, hl, fun j y hy => let ⟨u, hu, hr⟩ := hc j y hy; ⟨u, hu, hr.step hS⟩⟩

/-- Where the names lie: block and capacity. -/
abbrev Mu := Nat → Option (Nat × Nat)
section
variable (P : Program)
/-- One cell in a slot. -/
def Rep1 (S : Nat → Prop) (μ : Mu) (so : Store) (W : World) : TV → Value → Prop
  | .undef, _ => True
  | .skip, v => v = Go.undef
  | .val u, v => v = u ∧ scalarV u = true
  | .nil, v => v = .slice none 0 0
  | .sl xs, v => Rep S W (.sl xs) v
  | .fn f xs, v => Rep S W (.fn f xs) v
  | .row k off len, v => ∃ e xs s, so.get k = some (.row e xs) ∧ sizeT P e = some s ∧ off + len ≤ xs.length ∧
      ((μ k = none ∧ xs = [] ∧ v = .slice none 0 0) ∨ ∃ b cap a c, μ k = some (b, cap) ∧ v = .slice a len c ∧ len ≤ c ∧ c ≤ maxLen ∧ (off = 0 ∨ 0 < len → a = some ⟨b, off * s, none⟩ ∧ c + off = cap))
  | .ptr k i off, v => ∃ b cap, μ k = some (b, cap) ∧ ((∃ cs, so.get k = some (.box cs) ∧ i = 0 ∧ v = .pointer (some ⟨b, off, none⟩)) ∨ ∃ e xs s, so.get k = some (.row e xs) ∧ sizeT P e = some s ∧ v = .pointer (some ⟨b, i * s + off, none⟩))
  | .rd cs, v => ∃ ad, v = .pointer (some ad) ∧ S ad.block ∧ ∀ (j : Nat) (y : PV), cs[j]? = some y → ∃ u, W.cell? (ad.add j) = some u ∧ Rep S W y u
  | .agg _, _ => False
  | .tup _, _ => False
/-- A struct, or one cell. -/
def Rep2 (S : Nat → Prop) (μ : Mu) (so : Store) (W : World) : TV → Value → Prop
  | .agg cs, v => ∃ arr : Array Value, v = .agg arr ∧ arr.size = cs.length ∧ ∀ (j : Nat) (c : TV), cs[j]? = some c → ∃ u, arr[j]? = some u ∧ Rep1 P S μ so W c u
  | x, v => Rep1 P S μ so W x v
/-- A tuple, or a value. -/
def Rep3 (S : Nat → Prop) (μ : Mu) (so : Store) (W : World) : TV → Value → Prop
  | .tup ts, v => ∃ arr : Array Value, v = .tuple arr ∧ arr.size = ts.length ∧ ∀ (j : Nat) (c : TV), ts[j]? = some c → ∃ u, arr[j]? = some u ∧ Rep2 P S μ so W c u
  | x, v => Rep2 P S μ so W x v
/-- What is stored under a name. -/
def RepO (S : Nat → Prop) (μ : Mu) (so : Store) (W : World) (b cap : Nat) : SO → Prop
  | .box cs => ∃ (arr : Array Value) (t : TypeId), W.heap[b]? = some (.cells arr t (0, 0)) ∧ arr.size = cs.length ∧ ∀ (j : Nat) (c : TV), cs[j]? = some c → ∃ u, arr[j]? = some u ∧ u.oneCell' = true ∧ Rep1 P S μ so W c u
  | .row e xs => ∃ (arr : Array Value) (s : Nat) (f : Nat → Nat → Value), W.heap[b]? = some (.cells arr e (0, 0)) ∧ sizeT P e = some s ∧ 0 < s ∧ arr.size = cap * s ∧ cap ≤ maxLen ∧ xs.length ≤ cap ∧ (∀ x, x ∈ xs → x.cells.length = s) ∧
      ∀ i x j y, xs[i]? = some x → x.cells[j]? = some y → arr[i * s + j]? = some (f i j) ∧ Rep S W y (f i j)
end
/-- The blocks that are not the names', and not held back. -/
def free (S0 : Nat → Prop) (n0 : Nat) (H : Nat → Prop) (μ : Mu) (so : Store) (W : World) (b : Nat) : Prop := (S0 b ∨ n0 ≤ b) ∧ ¬ H b ∧ b < W.heap.size ∧ ∀ k c, (so.get k).isSome = true → μ k = some c → c.1 ≠ b
/-- A frame of the machine and what the evaluator holds of it. -/
structure Rel (P : Program) (S0 : Nat → Prop) (n0 : Nat) (w0 : World) (H : Nat → Prop) (st : St) (a : Act) (W : World) (A : List (Array Value)) (μ : Mu) : Prop where
  below : Below n0 w0 W
  old : n0 ≤ W.heap.size
  s0 : ∀ b, S0 b → b < n0
  held : ∀ b, H b → n0 ≤ b ∧ ∀ k c, (st.so.get k).isSome = true → μ k = some c → c.1 ≠ b
  defers : a.defers = []
  size : a.tmps.size = st.tm.length
  slots : ∀ (i : Nat) (v : TV), st.tm[i]? = some v → ∃ u, a.tmps[i]? = some u ∧ Rep3 P (free S0 n0 H μ st.so W) μ st.so W v u
  sus : A.length = st.sus.length ∧ ∀ (q : Nat) (l : List TV) (t : Array Value), st.sus[q]? = some l → A[q]? = some t → t.size = l.length ∧ ∀ (i : Nat) (v : TV), l[i]? = some v → ∃ u, t[i]? = some u ∧ Rep3 P (free S0 n0 H μ st.so W) μ st.so W v u
  obj : ∀ k o, st.so.get k = some o → (∀ c, μ k = some c → n0 ≤ c.1 ∧ c.1 < W.heap.size ∧ RepO P (free S0 n0 H μ st.so W) μ st.so W c.1 c.2 o)
  inj : ∀ k k' c c', (st.so.get k).isSome = true → (st.so.get k').isSome = true → μ k = some c → μ k' = some c' → c.1 = c'.1 → k = k'

/-! ### How these last -/
section
variable {P : Program} {S S' : Nat → Prop} {μ μ' : Mu} {so so' : Store} {W W' : World}
/-- From one state to the next: what v speaks of is as it was. -/
structure Same (S S' : Nat → Prop) (W W' : World) : Prop where
  keep : ∀ k, S k → S' k ∧ (k < W.heap.size → W'.heap[k]? = W.heap[k]?)
theorem Same.cell (h : Same S S' W W') {ad : Addr} {u : Value} (hs : S ad.block) (hc : W.cell? ad = some u) : W'.cell? ad = some u := by
  rw [World.cell?_of_block (w := W) (w' := W') ((h.keep _ hs).2 (World.block_lt_of_cell? W _ hc))]
  exact hc
theorem add_block (ad : Addr) (n : Nat) : (ad.add n).block = ad.block := by unfold Addr.add; split <;> rfl
theorem add_plain (g n : Nat) : (⟨g, 0, none⟩ : Addr).add n = ⟨g, n, none⟩ := by unfold Addr.add; split <;> simp_all
theorem add_off (g o n : Nat) : (⟨g, o, none⟩ : Addr).add n = ⟨g, o + n, none⟩ := by unfold Addr.add; split <;> simp_all
end
end Go.Proofs.YtlhjljplfmmoaaaGreatDoor.Ev
/- Soundness of the evaluator, part 2: the store; what turns a slot's names; rows and variables that come, go and are handed on. -/
namespace Go.Proofs.YtlhjljplfmmoaaaGreatDoor.Ev
open Go Go.RowKit

/-! ### The store -/
theorem get_ins (so : Store) (k : Nat) (o : SO) (j : Nat) : (so.ins k o).get j = if j = k then some o else so.get j := by
  induction so with
  | nil => simp only [Store.ins, Store.get]
  | cons p t ih =>
    obtain ⟨q, r⟩ := p
    simp only [Store.ins]
    split
    · simp only [Store.get]
    · split
      · rename_i h1 h2
        subst h2
        simp only [Store.get]
        split <;> rfl
      · rename_i h1 h2
        simp only [Store.get, ih]
        by_cases hj : j = q
        · subst hj
          simp [Ne.symm h2]
        · simp [hj]
def SO.map (f : TV → TV) : SO → SO
  | .box cs => .box (cs.map f)
  | .row e xs => .row e xs
theorem get_mapSo (f : TV → TV) (so : Store) (j : Nat) : (mapSo f so).get j = (so.get j).map (SO.map f) := by
  induction so with
  | nil => rfl
  | cons p t ih =>
    obtain ⟨q, r⟩ := p
    cases r <;> simp only [mapSo, Store.get] <;> split <;> simp_all [SO.map]
theorem get_del (so : Store) (k j : Nat) : (so.del k).get j = if j = k then none else so.get j := by
  induction so with
  | nil => simp [Store.del, Store.get]
  | cons p t ih =>
    obtain ⟨q, r⟩ := p
    simp only [Store.del]
    split
    · rename_i he
      subst he
      simp only [Store.get, ih]
      by_cases hj : j = k <;> simp [hj]
    · rename_i he
      simp only [Store.get, ih]
      by_cases hj : j = q
      · subst hj; simp [Ne.symm he]
      · simp [hj]

/-! ### Slots whose names are turned -/
section
variable {P : Program} {S S' : Nat → Prop} {μ μ' : Mu} {so so' : Store} {W W' : World} {f : TV → TV}
/-- f takes what is told in the one state to what is told in the other. -/
def Turns (P : Program) (S S' : Nat → Prop) (μ μ' : Mu) (so so' : Store) (W W' : World) (f : TV → TV) : Prop := ∀ v u, Rep1 P S μ so W v u → Rep1 P S' μ' so' W' (f v) u
theorem Rep1.one {v : TV} {u : Value} (h : Rep1 P S μ so W v u) : Rep2 P S μ so W v u := by
  cases v <;> first | exact h | exact h.elim
theorem Rep2.one {v : TV} {u : Value} (h : Rep2 P S μ so W v u) : Rep3 P S μ so W v u := by
  cases v <;> first | exact h | exact h.elim
theorem Rep2.elim (f : TV → TV) {v : TV} {u : Value} (h : Rep2 P S μ so W v u) : (∃ cs, v = .agg cs) ∨ (Rep1 P S μ so W v u ∧ map2 f v = f v) := by
  cases v <;> first | exact .inl ⟨_, rfl⟩ | exact .inr ⟨h, rfl⟩
theorem Rep3.elim (f : TV → TV) {v : TV} {u : Value} (h : Rep3 P S μ so W v u) : (∃ ts, v = .tup ts) ∨ (Rep2 P S μ so W v u ∧ map3 f v = map2 f v) := by
  cases v <;> first | exact .inl ⟨_, rfl⟩ | exact .inr ⟨h, rfl⟩
theorem Turns.two (hf : Turns P S S' μ μ' so so' W W' f) {v : TV} {u : Value} (h : Rep2 P S μ so W v u) : Rep2 P S' μ' so' W' (map2 f v) u := by
  rcases h.elim f with ⟨cs, rfl⟩ | ⟨h1, h2⟩
  · obtain ⟨arr, rfl, hl, hc⟩ := h
    refine ⟨arr, rfl, by rw [hl, List.length_map], fun j c hj => ?_⟩
    rw [List.getElem?_map, Option.map_eq_some_iff] at hj
    obtain ⟨c0, h0, rfl⟩ := hj
    obtain ⟨u, hu, hr⟩ := hc j c0 h0
    exact ⟨u, hu, hf _ _ hr⟩
  · rw [h2]
    exact (hf _ _ h1).one
theorem Turns.three (hf : Turns P S S' μ μ' so so' W W' f) {v : TV} {u : Value} (h : Rep3 P S μ so W v u) : Rep3 P S' μ' so' W' (map3 f v) u := by
  rcases h.elim f with ⟨ts, rfl⟩ | ⟨h1, h2⟩
  · obtain ⟨arr, rfl, hl, hc⟩ := h
    refine ⟨arr, rfl, by rw [hl, List.length_map], fun j c hj => ?_⟩
    rw [List.getElem?_map, Option.map_eq_some_iff] at hj
    obtain ⟨c0, h0, rfl⟩ := hj
    obtain ⟨u, hu, hr⟩ := hc j c0 h0
    exact ⟨u, hu, hf.two hr⟩
  · rw [h2]
    exact (hf.two h1).one
theorem map2_id (v : TV) : map2 id v = v := by cases v <;> simp [map2]
theorem map3_id (v : TV) : map3 id v = v := by
  cases v <;> simp [map3, map2_id]
  rename_i ts
  induction ts with
  | nil => rfl
  | cons x t ih => simp [map2_id, ih]
theorem Turns.slots (hf : Turns P S S' μ μ' so so' W W' f) {l : List TV} {t : Array Value} (h : ∀ (i : Nat) (v : TV), l[i]? = some v → ∃ u, t[i]? = some u ∧ Rep3 P S μ so W v u) :
    ∀ (i : Nat) (v : TV), (l.map (map3 f))[i]? = some v → ∃ u, t[i]? = some u ∧ Rep3 P S' μ' so' W' v u := by
  intro i v hv
  rw [List.getElem?_map, Option.map_eq_some_iff] at hv
  obtain ⟨v0, h0, rfl⟩ := hv
  obtain ⟨u, hu, hr⟩ := h i v0 h0
  exact ⟨u, hu, hf.three hr⟩
/-- The names that a cell bears. -/
def ref1 : TV → List Nat
  | .row k _ _ => [k]
  | .ptr k _ _ => [k]
  | _ => []
/-- The name k means what it meant. -/
structure Keep (μ μ' : Mu) (so so' : Store) (k : Nat) : Prop where
  mu : μ' k = μ k
  row : ∀ e xs, so.get k = some (.row e xs) → ∃ xs', so'.get k = some (.row e xs') ∧ xs'.length = xs.length
  box : ∀ cs, so.get k = some (.box cs) → ∃ cs', so'.get k = some (.box cs')
theorem Rep1.keep {v : TV} {u : Value} (h : Rep1 P S μ so W v u) (hS : Same S S' W W') (hk : ∀ k, k ∈ ref1 v → Keep μ μ' so so' k) : Rep1 P S' μ' so' W' v u := by
  cases v with
  | undef => trivial
  | skip => exact h
  | val _ => exact h
  | nil => exact h
  | sl xs => exact h.step hS.keep
  | fn f xs => exact h.step hS.keep
  | row k off len =>
    obtain ⟨e, xs, s, h1, h2, h3, h4⟩ := h
    obtain ⟨hm, hr, _⟩ := hk k (by simp [ref1])
    obtain ⟨xs', h1', hl⟩ := hr e xs h1
    refine ⟨e, xs', s, h1', h2, by omega, ?_⟩
    rw [hm]
    rcases h4 with ⟨h5, rfl, h6⟩ | h5
    · exact .inl ⟨h5, List.eq_nil_of_length_eq_zero (by simpa using hl), h6⟩
    · exact .inr h5
  | ptr k i off =>
    obtain ⟨b, cap, h1, h2⟩ := h
    obtain ⟨hm, hr, hb⟩ := hk k (by simp [ref1])
    refine ⟨b, cap, by rw [hm]; exact h1, ?_⟩
    rcases h2 with ⟨cs, h3, h4⟩ | ⟨e, xs, s, h3, h4⟩
    · obtain ⟨cs', h3'⟩ := hb cs h3
      exact .inl ⟨cs', h3', h4⟩
    · obtain ⟨xs', h3', _⟩ := hr e xs h3
      exact .inr ⟨e, xs', s, h3', h4⟩
  | rd cs =>
    obtain ⟨ad, rfl, h1, h2⟩ := h
    refine ⟨ad, rfl, (hS.keep _ h1).1, fun j y hy => ?_⟩
    obtain ⟨u, hu, hr⟩ := h2 j y hy
    exact ⟨u, hS.cell (by rw [add_block]; exact h1) hu, hr.step hS.keep⟩
  | agg _ => exact h.elim
  | tup _ => exact h.elim
end

/-! ### A frame whose names are turned -/
section
variable {P : Program} {S0 H : Nat → Prop} {n0 : Nat} {w0 : World} {st : St} {a : Act} {W W' : World} {A : List (Array Value)} {μ μ' : Mu}
theorem Rel.turn {H' : Nat → Prop} (h : Rel P S0 n0 w0 H st a W A μ) (f : TV → TV) (so1 : Store) (hB : Below n0 w0 W') (hsz : W.heap.size ≤ W'.heap.size)
    (hf : Turns P (free S0 n0 H μ st.so W) (free S0 n0 H' μ' (mapSo f so1) W') μ μ' st.so (mapSo f so1) W W' f)
    (ho : ∀ k o c, so1.get k = some o → μ' k = some c → (n0 ≤ c.1 ∧ c.1 < W'.heap.size ∧ RepO P (free S0 n0 H' μ' (mapSo f so1) W') μ' (mapSo f so1) W' c.1 c.2 (o.map f)))
    (hi : ∀ k k' c c', (so1.get k).isSome = true → (so1.get k').isSome = true → μ' k = some c → μ' k' = some c' → c.1 = c'.1 → k = k')
    (hh : ∀ b, H' b → n0 ≤ b ∧ ∀ k c, ((mapSo f so1).get k).isSome = true → μ' k = some c → c.1 ≠ b) :
    Rel P S0 n0 w0 H' (st.turn f so1) a W' A μ' where
  below := hB
  old := Nat.le_trans h.old hsz
  s0 := h.s0
  defers := h.defers
  held := hh
  size := by rw [h.size]; simp [St.turn]
  slots := hf.slots h.slots
  sus := by
    obtain ⟨h1, h2⟩ := h.sus
    refine ⟨by simp [St.turn, h1], fun q l t hl ht => ?_⟩
    simp only [St.turn, List.getElem?_map, Option.map_eq_some_iff] at hl
    obtain ⟨l0, h0, rfl⟩ := hl
    obtain ⟨h3, h4⟩ := h2 q l0 t h0 ht
    exact ⟨by simp [h3], hf.slots h4⟩
  obj := by
    intro k o hk c hc
    simp only [St.turn] at hk
    rw [get_mapSo] at hk
    obtain ⟨o1, hg, rfl⟩ := Option.map_eq_some_iff.1 hk
    exact ho k o1 c hg hc
  inj := by
    intro k k' c c' hk hk'
    simp only [St.turn] at hk hk'
    rw [get_mapSo] at hk hk'
    rw [Option.isSome_map] at hk hk'
    exact hi k k' c c' hk hk'
end

section
variable {P : Program} {S S' : Nat → Prop} {μ μ' : Mu} {so so' : Store} {W W' : World} {f : TV → TV}
theorem Rep1.keep' {v : TV} {u : Value} (h : Rep1 P S μ so W v u) (hS : Same S S' W W') (hk : ∀ k, (so.get k).isSome = true → Keep μ μ' so so' k) : Rep1 P S' μ' so' W' v u := by
  refine h.keep hS fun k hm => ?_
  cases v <;> simp only [ref1, List.mem_singleton, List.not_mem_nil] at hm
  · subst hm
    obtain ⟨e, xs, s, h1, _⟩ := h
    exact hk _ (by rw [h1]; rfl)
  · subst hm
    obtain ⟨b, cap, h1, ⟨cs, h2, _⟩ | ⟨e, xs, s, h2, _⟩⟩ := h <;> exact hk _ (by rw [h2]; rfl)
theorem RepO.turn {b cap : Nat} {o : SO} (h : RepO P S μ so W b cap o) (hf : Turns P S S' μ μ' so so' W W' f) (hS : Same S S' W W') (hb : W'.heap[b]? = W.heap[b]?) :
    RepO P S' μ' so' W' b cap (o.map f) := by
  cases o with
  | box cs =>
    obtain ⟨arr, t, h2, h3, h4⟩ := h
    refine ⟨arr, t, by rw [hb, h2], by simp [h3], fun j c hj => ?_⟩
    rw [List.getElem?_map, Option.map_eq_some_iff] at hj
    obtain ⟨c0, h0, rfl⟩ := hj
    obtain ⟨u, hu, ho, hr⟩ := h4 j c0 h0
    exact ⟨u, hu, ho, hf _ _ hr⟩
  | row e xs =>
    obtain ⟨arr, s, g, h2, h3, h4, h5, h6, h7, h8, h9⟩ := h
    refine ⟨arr, s, g, by rw [hb, h2], h3, h4, h5, h6, h7, h8, fun i x j y hx hy => ?_⟩
    obtain ⟨h10, h11⟩ := h9 i x j y hx hy
    exact ⟨h10, h11.step hS.keep⟩
theorem keep_map (f : TV → TV) (so1 : Store) (k : Nat) (h : so1.get k = so.get k) (hm : μ' k = μ k) : Keep μ μ' so (mapSo f so1) k := by
  refine ⟨hm, fun e xs hx => ⟨xs, ?_, rfl⟩, fun cs hx => ⟨cs.map f, ?_⟩⟩ <;> (rw [get_mapSo, h, hx]; rfl)
theorem isSome_mapSo (f : TV → TV) (so : Store) (k : Nat) : ((mapSo f so).get k).isSome = (so.get k).isSome := by
  rw [get_mapSo, Option.isSome_map]
theorem same_refl (S : Nat → Prop) (W : World) : Same S S W W := ⟨fun _ h => ⟨h, fun _ => rfl⟩⟩
theorem same_sub {S S' : Nat → Prop} {W : World} (h : ∀ b, S b → S' b) : Same S S' W W := ⟨fun _ hb => ⟨h _ hb, fun _ => rfl⟩⟩
end

section
variable {P : Program} {S0 H : Nat → Prop} {n0 : Nat} {w0 : World} {st : St} {a : Act} {W W' : World} {A : List (Array Value)} {μ μ' : Mu}
theorem free_del {H' : Nat → Prop} (k : Nat) (f : TV → TV) (hH : ∀ b, H' b → H b ∨ ∃ c, (st.so.get k).isSome = true ∧ μ k = some c ∧ c.1 = b) {b : Nat} (h : free S0 n0 H μ st.so W b) : free S0 n0 H' μ (mapSo f (st.so.del k)) W b := by
  obtain ⟨h1, h0, h2, h3⟩ := h
  refine ⟨h1, fun hb => (hH b hb).elim h0 fun ⟨c, g1, g2, g3⟩ => h3 k c g1 g2 g3, h2, fun j c hj hc => h3 j c ?_ hc⟩
  rw [isSome_mapSo, get_del] at hj
  split at hj
  · simp at hj
  · exact hj
/-- What is named k is forgotten, its block being written no more. -/
theorem Rel.drop {H' : Nat → Prop} (h : Rel P S0 n0 w0 H st a W A μ) (k : Nat) (f : TV → TV) (hH : ∀ b, H' b → H b ∨ ∃ c, (st.so.get k).isSome = true ∧ μ k = some c ∧ c.1 = b) (hf1 : ∀ v, k ∉ ref1 v → f v = v)
    (hf2 : ∀ v u, k ∈ ref1 v → Rep1 P (free S0 n0 H μ st.so W) μ st.so W v u → Rep1 P (free S0 n0 H' μ (mapSo f (st.so.del k)) W) μ (mapSo f (st.so.del k)) W (f v) u) :
    Rel P S0 n0 w0 H' (st.turn f (st.so.del k)) a W A μ := by
  have hS : Same (free S0 n0 H μ st.so W) (free S0 n0 H' μ (mapSo f (st.so.del k)) W) W W := same_sub fun b hb => free_del k f hH hb
  have hT : Turns P (free S0 n0 H μ st.so W) (free S0 n0 H' μ (mapSo f (st.so.del k)) W) μ μ st.so (mapSo f (st.so.del k)) W W f := by
    intro v u hr
    by_cases hk : k ∈ ref1 v
    · exact hf2 v u hk hr
    · rw [hf1 v hk]
      refine hr.keep hS fun j hj => keep_map f _ j ?_ rfl
      rw [get_del, if_neg]
      intro e
      subst e
      exact hk hj
  refine h.turn f (st.so.del k) h.below (Nat.le_refl _) hT (fun j o c hj hc => ?_) (fun j j' c c' hj hj' => ?_) (fun b hb => ?_)
  · rw [get_del] at hj
    split at hj
    · simp at hj
    · obtain ⟨h1, h2, h3⟩ := h.obj j o hj c hc
      exact ⟨h1, h2, RepO.turn h3 hT hS rfl⟩
  · rw [get_del] at hj hj'
    refine h.inj j j' c c' ?_ ?_
    · split at hj <;> simp_all
    · split at hj' <;> simp_all
  · rcases hH b hb with hb | ⟨c0, g1, g2, rfl⟩
    · refine ⟨(h.held b hb).1, fun j c hj hc => (h.held b hb).2 j c ?_ hc⟩
      rw [isSome_mapSo, get_del] at hj
      split at hj <;> simp_all
    · obtain ⟨o0, ho0⟩ := Option.isSome_iff_exists.1 g1
      refine ⟨(h.obj k o0 ho0 c0 g2).1, fun j c hj hc he => ?_⟩
      rw [isSome_mapSo, get_del] at hj
      split at hj
      · simp at hj
      · rename_i hjk
        exact hjk (h.inj j k c c0 hj g1 hc g2 he)
theorem Rel.kill (h : Rel P S0 n0 w0 H st a W A μ) (k : Nat) : Rel P S0 n0 w0 H (st.kill k) a W A μ := by
  unfold St.kill
  split
  · exact h
  · refine h.drop k (kill1 k) (fun b hb => .inl hb) (fun v hv => ?_) (fun v u hk _ => ?_)
    · cases v <;> simp_all [kill1, ref1] <;> intro e <;> exact absurd e.symm hv
    · cases v <;> simp_all [kill1, ref1] <;> trivial
theorem kill_get (st : St) (k j : Nat) : ((st.kill k).so.get j).isSome = if j = k then false else (st.so.get j).isSome := by
  unfold St.kill
  split
  · rename_i h
    split
    · rename_i e; subst e; rw [h]; rfl
    · rfl
  · simp only [St.turn]
    rw [isSome_mapSo, get_del]
    split <;> rfl
theorem Rel.close (h : Rel P S0 n0 w0 H st a W A μ) (k : Nat) : Rel P S0 n0 w0 H (st.close k) a W A μ := by
  unfold St.close
  split
  · rename_i e xs hk
    refine h.drop k (seal1 k xs) (fun b hb => .inl hb) (fun v hv => ?_) (fun v u hm hr => ?_)
    · cases v <;> simp_all [seal1, ref1] <;> intro e <;> exact absurd e.symm hv
    · cases v <;> simp only [ref1, List.mem_singleton, List.not_mem_nil] at hm
      · rename_i j off len
        subst hm
        obtain ⟨e', xs', s, h1, h2, h3, h4⟩ := hr
        rw [hk] at h1
        obtain ⟨rfl, rfl⟩ : e = e' ∧ xs = xs' := by simpa using h1
        simp only [seal1, if_true, h3]
        rcases h4 with ⟨h5, rfl, rfl⟩ | ⟨b, cap, ad, c, h5, rfl, h6, h7, h8⟩
        · have h0 : off = 0 ∧ len = 0 := by simp at h3; omega
          obtain ⟨rfl, rfl⟩ := h0
          exact Rep.sl [] none 0 0 (fun _ _ => default) (Nat.le_refl _) (Nat.zero_le _) (fun h => absurd rfl h) (fun x hx => by simp at hx) (fun ad ha => by simp at ha) (fun i x j y hx => by simp at hx)
        · obtain ⟨hn, hlt, hro⟩ := h.obj k _ hk _ h5
          obtain ⟨arr, s', g, g1, g2, g3, g4, g5, g6, g7, g8⟩ := hro
          obtain rfl : s' = s := by rw [h2] at g2; simpa using g2.symm
          have hll : ((xs.drop off).take len).length = len := by rw [List.length_take, List.length_drop]; omega
          have hix : ∀ (i : Nat) (x : PV), ((xs.drop off).take len)[i]? = some x → xs[off + i]? = some x := fun i x hx => by
            rw [List.getElem?_take] at hx
            split at hx
            · rwa [List.getElem?_drop] at hx
            · simp at hx
          have := Rep.sl (S := free S0 n0 H μ (mapSo (seal1 k xs) (st.so.del k)) W) (W := W) ((xs.drop off).take len) ad c s' (fun i j => g (off + i) j) (by rw [hll]; exact h6) h7 ?_ ?_ ?_ ?_
          · rw [hll] at this
            exact this
          · intro hne
            have : 0 < len := by
              rcases Nat.eq_zero_or_pos len with h0 | h0
              · subst h0; simp at hne
              · exact h0
            exact ⟨_, (h8 (.inr this)).1⟩
          · intro x hx
            exact g7 x (List.mem_of_mem_drop (List.mem_of_mem_take hx))
          · intro ad' ha i x hx
            have hlen : i < len := by
              have := (List.getElem?_eq_some_iff.1 hx).1
              omega
            have h9 := (h8 (.inr (by omega))).1
            rw [ha] at h9
            obtain rfl : ad' = ⟨b, off * s', none⟩ := by simpa using h9
            refine ⟨⟨.inr hn, fun hb => (h.held _ hb).2 k _ (by rw [hk]; rfl) h5 rfl, hlt, fun j c' hj hc' => ?_⟩, fun j y hy => ?_⟩
            · rw [isSome_mapSo, get_del] at hj
              split at hj
              · simp at hj
              · rename_i hjk
                intro he
                exact hjk (h.inj j k c' (b, cap) hj (by rw [hk]; rfl) hc' h5 he)
            · rw [add_off, cell_of_row W b _ arr _ _ g1, ← Nat.add_assoc, ← Nat.add_mul]
              exact (g8 _ x j y (hix i x hx) hy).1
          · intro i x j y hx hy
            exact (g8 _ x j y (hix i x hx) hy).2.step (same_sub fun b hb => free_del k _ (fun b hb => .inl hb) hb).keep
      · rename_i j i off
        subst hm
        simp only [seal1, if_true]
        trivial
  · exact h
theorem Rel.sealAll (ks : List Nat) : ∀ {st : St}, Rel P S0 n0 w0 H st a W A μ → Rel P S0 n0 w0 H (sealAll ks st) a W A μ := by
  induction ks with
  | nil => exact fun h => h
  | cons k ks ih => exact fun h => ih (h.close k)
theorem getElem?_setN (l : List TV) (d : Nat) (v : TV) (i : Nat) : (setN l d v)[i]? = if i = d ∧ d < l.length then some v else l[i]? := by
  induction l generalizing d i with
  | nil => simp [setN]
  | cons x t ih =>
    cases d with
    | zero => cases i <;> simp [setN]
    | succ d => cases i <;> simp [setN, ih]
theorem length_setN (l : List TV) (d : Nat) (v : TV) : (setN l d v).length = l.length := by
  induction l generalizing d with
  | nil => rfl
  | cons x t ih => cases d <;> simp [setN, ih]
theorem Rel.put (h : Rel P S0 n0 w0 H st a W A μ) (dst : Option Tmp) {v : TV} {u : Value} (hv : Rep3 P (free S0 n0 H μ st.so W) μ st.so W v u) : Rel P S0 n0 w0 H (st.put dst v) (a.put dst u) W A μ := by
  cases dst with
  | none => exact h
  | some d =>
    refine ⟨h.below, h.old, h.s0, h.held, h.defers, by simp [St.put, Act.put, length_setN, h.size], fun i v' hi => ?_, h.sus, h.obj, h.inj⟩
    simp only [St.put] at hi
    rw [getElem?_setN] at hi
    simp only [Act.put, Array.getElem?_setIfInBounds]
    by_cases hd : i = d
    · subst hd
      by_cases hl : i < st.tm.length
      · rw [if_pos ⟨rfl, hl⟩] at hi
        obtain rfl : v = v' := by simpa using hi
        exact ⟨u, by rw [if_pos rfl, if_pos (by rw [h.size]; exact hl)], hv⟩
      · rw [if_neg (fun h => hl h.2)] at hi
        rw [List.getElem?_eq_none (by omega)] at hi
        simp at hi
    · rw [if_neg (fun h => hd h.1)] at hi
      rw [if_neg (Ne.symm hd)]
      exact h.slots i v' hi
end
end Go.Proofs.YtlhjljplfmmoaaaGreatDoor.Ev
/- Soundness of the evaluator, part 3: blocks that are held back, made, named and written. -/
namespace Go.Proofs.YtlhjljplfmmoaaaGreatDoor.Ev
open Go Go.RowKit
section
variable {P : Program} {S0 H H' : Nat → Prop} {n0 : Nat} {w0 : World} {st : St} {a : Act} {W W' : World} {A : List (Array Value)} {μ μ' : Mu}
/-- The name k is forgotten; its block is held back. -/
theorem Rel.killHold (h : Rel P S0 n0 w0 H st a W A μ) (k : Nat) (hk : (st.so.get k).isSome = true) : Rel P S0 n0 w0 (fun b => H b ∨ ∃ c, μ k = some c ∧ c.1 = b) (st.kill k) a W A μ := by
  unfold St.kill
  split
  · simp_all
  · refine h.drop k (kill1 k) (fun b hb => hb.imp id fun ⟨c, g1, g2⟩ => ⟨c, hk, g1, g2⟩) (fun v hv => ?_) (fun v u hm _ => ?_)
    · cases v <;> simp_all [kill1, ref1] <;> intro e <;> exact absurd e.symm hv
    · cases v <;> simp_all [kill1, ref1] <;> trivial
/-- The world has turned in held blocks alone; new blocks may be held. -/
theorem Rel.world (h : Rel P S0 n0 w0 H st a W A μ) (hB : Below n0 w0 W') (hsz : W.heap.size ≤ W'.heap.size) (hw : ∀ b, b < W.heap.size → ¬ H b → W'.heap[b]? = W.heap[b]?)
    (hH : ∀ b, H' b → H b ∨ W.heap.size ≤ b) : Rel P S0 n0 w0 H' st a W' A μ := by
  have hS : Same (free S0 n0 H μ st.so W) (free S0 n0 H' μ st.so W') W W' := by
    refine ⟨fun b ⟨h1, h2, h3, h4⟩ => ⟨⟨h1, fun hb => (hH b hb).elim h2 (by omega), by omega, h4⟩, fun _ => hw b h3 h2⟩⟩
  have hT : Turns P (free S0 n0 H μ st.so W) (free S0 n0 H' μ st.so W') μ μ st.so st.so W W' id := fun v u hr => hr.keep' hS fun k _ => ⟨rfl, fun e xs hx => ⟨xs, hx, rfl⟩, fun cs hx => ⟨cs, hx⟩⟩
  have hs3 : ∀ v u, Rep3 P (free S0 n0 H μ st.so W) μ st.so W v u → Rep3 P (free S0 n0 H' μ st.so W') μ st.so W' v u := fun v u hr => by
    have := hT.three hr
    rwa [map3_id] at this
  refine ⟨hB, Nat.le_trans h.old hsz, h.s0, fun b hb => ?_, h.defers, h.size, fun i v hv => ?_, ⟨h.sus.1, fun q l t hl ht => ⟨(h.sus.2 q l t hl ht).1, fun i v hv => ?_⟩⟩, fun k o hk c hc => ?_, h.inj⟩
  · rcases hH b hb with hb | hb
    · exact h.held b hb
    · refine ⟨Nat.le_trans h.old hb, fun k c hk hc => ?_⟩
      obtain ⟨o, ho⟩ := Option.isSome_iff_exists.1 hk
      have := (h.obj k o ho c hc).2.1
      omega
  · obtain ⟨u, hu, hr⟩ := h.slots i v hv
    exact ⟨u, hu, hs3 _ _ hr⟩
  · obtain ⟨u, hu, hr⟩ := (h.sus.2 q l t hl ht).2 i v hv
    exact ⟨u, hu, hs3 _ _ hr⟩
  · obtain ⟨h1, h2, h3⟩ := h.obj k o hk c hc
    have := RepO.turn h3 hT hS (hw c.1 h2 fun hb => (h.held _ hb).2 k c (by rw [hk]; rfl) hc rfl)
    refine ⟨h1, by omega, ?_⟩
    cases o <;> simpa [SO.map] using this
/-- A held block is given a name. -/
theorem Rel.ins (h : Rel P S0 n0 w0 H st a W A μ) (k : Nat) (hk : st.so.get k = none) (o : SO) (b cap : Nat) (hb : H b) (hlt : b < W.heap.size)
    (ho : RepO P (free S0 n0 H μ st.so W) μ st.so W b cap o) :
    Rel P S0 n0 w0 (fun b' => H b' ∧ b' ≠ b) (st.withSo (st.so.ins k o)) a W A (fun j => if j = k then some (b, cap) else μ j) := by
  have hS : Same (free S0 n0 H μ st.so W) (free S0 n0 (fun b' => H b' ∧ b' ≠ b) (fun j => if j = k then some (b, cap) else μ j) (st.so.ins k o) W) W W := by
    refine same_sub fun b' ⟨h1, h2, h3, h4⟩ => ⟨h1, fun hb' => h2 hb'.1, h3, fun j c hj hc => ?_⟩
    by_cases hjk : j = k
    · subst hjk
      simp only [if_true, Option.some.injEq] at hc
      subst hc
      intro e
      exact h2 (e ▸ hb)
    · simp only [hjk, if_false] at hc
      rw [get_ins, if_neg hjk] at hj
      exact h4 j c hj hc
  have hK : ∀ j, (st.so.get j).isSome = true → Keep μ (fun j => if j = k then some (b, cap) else μ j) st.so (st.so.ins k o) j := fun j hj => by
    have hjk : j ≠ k := by rintro rfl; simp [hk] at hj
    exact ⟨by simp [hjk], fun e xs hx => ⟨xs, by rw [get_ins, if_neg hjk, hx], rfl⟩, fun cs hx => ⟨cs, by rw [get_ins, if_neg hjk, hx]⟩⟩
  have hT : Turns P (free S0 n0 H μ st.so W) (free S0 n0 (fun b' => H b' ∧ b' ≠ b) (fun j => if j = k then some (b, cap) else μ j) (st.so.ins k o) W) μ (fun j => if j = k then some (b, cap) else μ j) st.so (st.so.ins k o) W W id := fun v u hr => hr.keep' hS hK
  have hs3 : ∀ v u, Rep3 P (free S0 n0 H μ st.so W) μ st.so W v u → Rep3 P _ _ _ W v u := fun v u hr => by
    have := hT.three hr
    rwa [map3_id] at this
  have hO : ∀ o' b' cap', RepO P (free S0 n0 H μ st.so W) μ st.so W b' cap' o' → RepO P (free S0 n0 (fun b' => H b' ∧ b' ≠ b) (fun j => if j = k then some (b, cap) else μ j) (st.so.ins k o) W) (fun j => if j = k then some (b, cap) else μ j) (st.so.ins k o) W b' cap' o' := fun o' b' cap' hr => by
    have := RepO.turn hr hT hS rfl
    cases o' <;> simpa [SO.map] using this
  refine ⟨h.below, h.old, h.s0, fun b' hb' => ⟨(h.held b' hb'.1).1, fun j c hj hc => ?_⟩, h.defers, h.size, fun i v hv => ?_, ⟨h.sus.1, fun q l t hl ht => ⟨(h.sus.2 q l t hl ht).1, fun i v hv => ?_⟩⟩, fun j o' hj c hc => ?_, fun j j' c c' hj hj' hc hc' he => ?_⟩
  · by_cases hjk : j = k
    · subst hjk
      simp only [if_true, Option.some.injEq] at hc
      subst hc
      exact fun e => hb'.2 e.symm
    · simp only [hjk, if_false] at hc
      simp only [St.withSo] at hj
      rw [get_ins, if_neg hjk] at hj
      exact (h.held b' hb'.1).2 j c hj hc
  · obtain ⟨u, hu, hr⟩ := h.slots i v hv
    exact ⟨u, hu, hs3 _ _ hr⟩
  · obtain ⟨u, hu, hr⟩ := (h.sus.2 q l t hl ht).2 i v hv
    exact ⟨u, hu, hs3 _ _ hr⟩
  · simp only [St.withSo] at hj
    rw [get_ins] at hj
    by_cases hjk : j = k
    · subst hjk
      simp only [if_true, Option.some.injEq] at hj hc
      subst hj hc
      exact ⟨(h.held b hb).1, hlt, hO _ _ _ ho⟩
    · simp only [hjk, if_false] at hj hc
      obtain ⟨h1, h2, h3⟩ := h.obj j o' hj c hc
      exact ⟨h1, h2, hO _ _ _ h3⟩
  · simp only [St.withSo] at hj hj'
    rw [get_ins] at hj hj'
    by_cases hjk : j = k <;> by_cases hjk' : j' = k
    · rw [hjk, hjk']
    · subst hjk
      simp only [if_true, Option.some.injEq] at hc
      subst hc
      simp only [hjk', if_false] at hj' hc'
      exact absurd he.symm ((h.held b hb).2 j' c' hj' hc')
    · subst hjk'
      simp only [if_true, Option.some.injEq] at hc'
      subst hc'
      simp only [hjk, if_false] at hj hc
      exact absurd he ((h.held b hb).2 j c hj hc)
    · simp only [hjk, hjk', if_false] at hj hj' hc hc'
      exact h.inj j j' c c' hj hj' hc hc' he
/-- Less is held. -/
theorem Rel.unhold (h : Rel P S0 n0 w0 H st a W A μ) (hH : ∀ b, H' b → H b) : Rel P S0 n0 w0 H' st a W A μ :=
  h.world h.below (Nat.le_refl _) (fun _ _ _ => rfl) fun b hb => .inl (hH b hb)
end
end Go.Proofs.YtlhjljplfmmoaaaGreatDoor.Ev
/- Soundness of the evaluator, part 4: operands, and what is read as data. -/
namespace Go.Proofs.YtlhjljplfmmoaaaGreatDoor.Ev
open Go Go.RowKit
section
variable {P : Program} {S0 H : Nat → Prop} {n0 : Nat} {w0 : World} {st : St} {a : Act} {W : World} {A : List (Array Value)} {μ : Mu} {S : Nat → Prop} {so : Store}
theorem nth_some {l : List TV} {i : Nat} {v : TV} (h : nth l i = v) (hv : v ≠ .undef) : l[i]? = some v := by
  induction l generalizing i with
  | nil => exact absurd h.symm hv
  | cons x t ih =>
    cases i with
    | zero => simpa [nth] using h
    | succ i => simpa [nth] using ih (by simpa [nth] using h)
theorem told_some {v w : TV} (h : told v = some w) : v = w ∧ v ≠ .undef ∧ v ≠ .skip := by
  cases v <;> simp only [told, reduceCtorEq] at h <;> (cases h; simp)
theorem ofVal1_rep {v : Value} {t : TV} (h : ofVal1 v = some t) : Rep1 P S μ so W t v := by
  unfold ofVal1 at h
  split at h
  · obtain rfl : TV.nil = t := by simpa using h
    rfl
  · split at h
    · rename_i hs
      obtain rfl : TV.val v = t := by simpa using h
      exact ⟨rfl, hs⟩
    · simp at h
theorem ofVals_rep {vs : List Value} : ∀ {ts : List TV}, ofVals vs = some ts → ts.length = vs.length ∧ ∀ (j : Nat) (c : TV), ts[j]? = some c → ∃ u, vs[j]? = some u ∧ Rep1 P S μ so W c u := by
  induction vs with
  | nil => intro ts h; simp [ofVals] at h; subst h; simp
  | cons v vs ih =>
    intro ts h
    simp only [ofVals] at h
    split at h
    · rename_i x xs hx hxs
      obtain rfl : x :: xs = ts := by simpa using h
      obtain ⟨h1, h2⟩ := ih hxs
      refine ⟨by simp [h1], fun j c hj => ?_⟩
      cases j with
      | zero =>
        obtain rfl : x = c := by simpa using hj
        exact ⟨v, by simp, ofVal1_rep hx⟩
      | succ j => simpa using h2 j c (by simpa using hj)
    · simp at h
theorem ofVal_rep {v : Value} {t : TV} (h : ofVal v = some t) : Rep2 P S μ so W t v := by
  unfold ofVal at h
  split at h
  · rename_i cs
    split at h
    · rename_i xs hxs
      obtain rfl : TV.agg xs = t := by simpa using h
      obtain ⟨h1, h2⟩ := ofVals_rep (P := P) (S := S) (μ := μ) (so := so) (W := W) hxs
      refine ⟨cs, rfl, by simp [h1], fun j c hj => ?_⟩
      obtain ⟨u, hu, hr⟩ := h2 j c hj
      exact ⟨u, by simpa using hu, hr⟩
    · simp at h
  · exact (ofVal1_rep h).one
theorem Rel.eval (h : Rel P S0 n0 w0 H st a W A μ) {x : Operand} {v : TV} (hx : rdv st.tm x = some v) : Rep3 P (free S0 n0 H μ st.so W) μ st.so W v (a.eval x) := by
  cases x with
  | tmp t =>
    obtain ⟨h1, h2, _⟩ := told_some hx
    subst h1
    obtain ⟨u, hu, hr⟩ := h.slots t _ (nth_some rfl h2)
    simp only [Act.eval, Array.getD_eq_getD_getElem?, hu, Option.getD_some]
    exact hr
  | const c => exact (ofVal_rep hx).one
  | global g => simp [rdv] at hx
  | func f => simp [rdv] at hx
/-- A row of the call's own, read as a list: its block is one more that may not be turned. -/
theorem Rel.row_list (h : Rel P S0 n0 w0 H st a W A μ) {S' : Nat → Prop} (hS : ∀ b, free S0 n0 H μ st.so W b → S' b) {k off len : Nat} {u : Value} {e : TypeId} {xs : List PV} (hk : st.so.get k = some (.row e xs))
    (hr : Rep1 P (free S0 n0 H μ st.so W) μ st.so W (.row k off len) u) (hb : ∀ c, μ k = some c → S' c.1) : off + len ≤ xs.length ∧ Rep S' W (.sl ((xs.drop off).take len)) u := by
  obtain ⟨e', xs', s, h1, h2, h3, h4⟩ := hr
  rw [hk] at h1
  obtain ⟨rfl, rfl⟩ : e = e' ∧ xs = xs' := by simpa using h1
  refine ⟨h3, ?_⟩
  rcases h4 with ⟨h5, rfl, rfl⟩ | ⟨b, cap, ad, c, h5, rfl, h6, h7, h8⟩
  · have h0 : off = 0 ∧ len = 0 := by simp at h3; omega
    obtain ⟨rfl, rfl⟩ := h0
    exact Rep.sl [] none 0 0 (fun _ _ => default) (Nat.le_refl _) (Nat.zero_le _) (fun h => absurd rfl h) (fun x hx => by simp at hx) (fun ad ha => by simp at ha) (fun i x j y hx => by simp at hx)
  · obtain ⟨hn, hlt, hro⟩ := h.obj k _ hk _ h5
    obtain ⟨arr, s', g, g1, g2, g3, g4, g5, g6, g7, g8⟩ := hro
    obtain rfl : s' = s := by rw [h2] at g2; simpa using g2.symm
    have hll : ((xs.drop off).take len).length = len := by rw [List.length_take, List.length_drop]; omega
    have hix : ∀ (i : Nat) (x : PV), ((xs.drop off).take len)[i]? = some x → xs[off + i]? = some x := fun i x hx => by
      rw [List.getElem?_take] at hx
      split at hx
      · rwa [List.getElem?_drop] at hx
      · simp at hx
    have := Rep.sl (S := S') (W := W) ((xs.drop off).take len) ad c s' (fun i j => g (off + i) j) (by rw [hll]; exact h6) h7 ?_ ?_ ?_ ?_
    · rw [hll] at this
      exact this
    · intro hne
      have : 0 < len := by
        rcases Nat.eq_zero_or_pos len with h0 | h0
        · subst h0; simp at hne
        · exact h0
      exact ⟨_, (h8 (.inr this)).1⟩
    · intro x hx
      exact g7 x (List.mem_of_mem_drop (List.mem_of_mem_take hx))
    · intro ad' ha i x hx
      have hlen : i < len := by
        have := (List.getElem?_eq_some_iff.1 hx).1
        omega
      have h9 := (h8 (.inr (by omega))).1
      rw [ha] at h9
      obtain rfl : ad' = ⟨b, off * s', none⟩ := by simpa using h9
      refine ⟨hb _ h5, fun j y hy => ?_⟩
      rw [add_off, cell_of_row W b _ arr _ _ g1, ← Nat.add_assoc, ← Nat.add_mul]
      exact (g8 _ x j y (hix i x hx) hy).1
    · intro i x j y hx hy
      exact (g8 _ x j y (hix i x hx) hy).2.step (same_sub hS).keep
theorem Rel.pv1 (h : Rel P S0 n0 w0 H st a W A μ) {S' : Nat → Prop} (hS : ∀ b, free S0 n0 H μ st.so W b → S' b) {v : TV} {u : Value} {p : PV} (hv : toPV1 st.so v = some p)
    (hr : Rep1 P (free S0 n0 H μ st.so W) μ st.so W v u) (hb : ∀ k, k ∈ rowsIn1 v → ∀ e xs, st.so.get k = some (.row e xs) → ∀ c, μ k = some c → S' c.1) : Rep S' W p u := by
  cases v with
  | val w =>
    obtain rfl : PV.val w = p := by simpa [toPV1] using hv
    obtain ⟨rfl, hs⟩ := hr
    exact .val _ hs
  | nil =>
    obtain rfl : PV.sl [] = p := by simpa [toPV1] using hv
    obtain rfl : u = .slice none 0 0 := hr
    exact Rep.sl [] none 0 0 (fun _ _ => default) (Nat.le_refl _) (Nat.zero_le _) (fun h => absurd rfl h) (fun x hx => by simp at hx) (fun ad ha => by simp at ha) (fun i x j y hx => by simp at hx)
  | sl xs =>
    obtain rfl : PV.sl xs = p := by simpa [toPV1] using hv
    exact Rep.step hr (same_sub hS).keep
  | fn f xs =>
    obtain rfl : PV.fn f xs = p := by simpa [toPV1] using hv
    exact Rep.step hr (same_sub hS).keep
  | row k off len =>
    simp only [toPV1] at hv
    split at hv
    · rename_i e xs hk
      split at hv
      · obtain rfl := Option.some.inj hv
        exact (h.row_list hS hk hr (hb k (by simp [rowsIn1]) e xs hk)).2
      · simp at hv
    · simp at hv
  | undef => simp [toPV1] at hv
  | skip => simp [toPV1] at hv
  | ptr _ _ _ => simp [toPV1] at hv
  | rd _ => simp [toPV1] at hv
  | agg _ => simp [toPV1] at hv
  | tup _ => simp [toPV1] at hv
theorem toPV1s_get {so : Store} {cs : List TV} : ∀ {ps : List PV}, toPV1s so cs = some ps → ps.length = cs.length ∧ ∀ (j : Nat) (y : PV), ps[j]? = some y → ∃ c, cs[j]? = some c ∧ toPV1 so c = some y := by
  induction cs with
  | nil => intro ps h; simp [toPV1s] at h; subst h; simp
  | cons v cs ih =>
    intro ps h
    simp only [toPV1s] at h
    split at h
    · rename_i x xs hx hxs
      obtain rfl : x :: xs = ps := by simpa using h
      obtain ⟨h1, h2⟩ := ih hxs
      refine ⟨by simp [h1], fun j c hj => ?_⟩
      cases j with
      | zero =>
        obtain rfl : x = c := by simpa using hj
        exact ⟨v, by simp, hx⟩
      | succ j => simpa using h2 j c (by simpa using hj)
    · simp at h
theorem toPV1_notagg {so : Store} {v : TV} {p : PV} (h : toPV1 so v = some p) : (∀ cs, p ≠ .agg cs) ∧ (∀ cs, v ≠ .agg cs) := by
  cases v with
  | row k off len =>
    simp only [toPV1] at h
    split at h
    · split at h
      · obtain rfl := Option.some.inj h
        exact ⟨fun _ => by simp, fun _ => by simp⟩
      · simp at h
    · simp at h
  | _ => simp_all [toPV1] <;> (subst h; simp)
theorem Rep.v {S : Nat → Prop} {W : World} {p : PV} {u : Value} (h : Rep S W p u) : RepV S W p u := by cases h <;> (unfold RepV; constructor <;> assumption)
theorem Rel.pv (h : Rel P S0 n0 w0 H st a W A μ) {S' : Nat → Prop} (hS : ∀ b, free S0 n0 H μ st.so W b → S' b) {v : TV} {u : Value} {p : PV} (hv : toPV st.so v = some p)
    (hr : Rep3 P (free S0 n0 H μ st.so W) μ st.so W v u) (hb : ∀ k, k ∈ rowsIn v → ∀ e xs, st.so.get k = some (.row e xs) → ∀ c, μ k = some c → S' c.1) : RepV S' W p u := by
  cases v with
  | agg cs =>
    obtain ⟨arr, rfl, hl, hc⟩ := hr
    simp only [toPV, aggO] at hv
    split at hv
    · rename_i ps hps
      obtain rfl := Option.some.inj hv
      obtain ⟨h1, h2⟩ := toPV1s_get hps
      refine ⟨arr, rfl, by rw [hl, h1], fun j y hy => ?_⟩
      obtain ⟨c, hc1, hc2⟩ := h2 j y hy
      obtain ⟨u, hu, hr⟩ := hc j c hc1
      exact ⟨u, hu, h.pv1 hS hc2 hr fun k hk => hb k (List.mem_flatMap.2 ⟨c, List.mem_of_getElem? hc1, hk⟩)⟩
    · simp at hv
  | val w => exact (h.pv1 (v := .val w) hS hv hr hb).v
  | nil => exact (h.pv1 (v := .nil) hS hv hr hb).v
  | sl xs => exact (h.pv1 (v := .sl xs) hS hv hr hb).v
  | fn f xs => exact (h.pv1 (v := .fn f xs) hS hv hr hb).v
  | row k off len => exact (h.pv1 (v := .row k off len) hS hv hr hb).v
  | undef => simp [toPV, toPV1] at hv
  | skip => simp [toPV, toPV1] at hv
  | ptr _ _ _ => simp [toPV, toPV1] at hv
  | rd _ => simp [toPV, toPV1] at hv
  | tup _ => simp [toPV, toPV1] at hv
end
end Go.Proofs.YtlhjljplfmmoaaaGreatDoor.Ev
/- Soundness of the evaluator, part 5: operations that change nothing. -/
namespace Go.Proofs.YtlhjljplfmmoaaaGreatDoor.Ev
open Go Go.RowKit
section
variable {P : Program} {S0 H : Nat → Prop} {n0 : Nat} {w0 : World} {st : St} {a : Act} {W : World} {A : List (Array Value)} {μ : Mu} {S : Nat → Prop} {so : Store}
theorem binInt_run (op : BinOp) (t : TypeId) (k : IntKind) (x y : Int) (hs : isShift op = false) {r : Value} (h : intBin op k x y = some r) : (binOp op t (.int k x) (.int k y)).run P W = .ok r W ∧ scalarV r = true := by
  cases op <;> simp_all [intBin, isShift, binOp, Op.intArith, Op.intDiv, Op.intBits, Op.intCmp] <;> (try (obtain ⟨h1, rfl⟩ := h)) <;> (try subst h) <;> simp_all [scalarV]
theorem binShift_run (op : BinOp) (t : TypeId) (k j : IntKind) (x y : Int) (hs : isShift op = true) {r : Value} (h : intShift op k x y = some r) : (binOp op t (.int k x) (.int j y)).run P W = .ok r W ∧ scalarV r = true := by
  cases op <;> simp_all [intShift, isShift, binOp, Op.shift] <;> (obtain ⟨h1, rfl⟩ := h) <;> exact ⟨fun h => absurd h (by omega), rfl⟩
theorem binStr_run (op : BinOp) (t : TypeId) (x y : ByteArray) {r : Value} (h : strBin op x y = some r) : (binOp op t (.string x) (.string y)).run P W = .ok r W ∧ scalarV r = true := by
  cases op <;> simp_all [strBin, binOp, Op.stringOp, IntKind.max] <;> (try (obtain ⟨h1, rfl⟩ := h)) <;> (try subst h) <;> simp_all [scalarV]
  have : (2 : Int) ^ (IntKind.i64.bits - 1) = 9223372036854775808 := by decide
  simp [IntKind.signed] at *
  omega
theorem guard_scalar (op : BinOp) (t : TypeId) (x y : Operand) (u v : Value) (hu : scalarV u = true) (hn : u ≠ .nilIface) : (eqGuard op t x y u v).run P W = .ok () W := by
  unfold eqGuard
  cases op <;> simp <;> (cases u <;> simp_all [scalarV])
theorem guard_slice (op : BinOp) (t : TypeId) (x y : Operand) (b : Option Addr) (n c : Nat) (v : Value) : (eqGuard op t x y (.slice b n c) v).run P W = .ok () W := by
  unfold eqGuard
  cases op <;> simp
theorem elemT_some {t : TypeId} (h : (elemT P t).isSome = true) : ∃ e, P.underlying t = some (.slice e) := by
  unfold elemT at h
  split at h
  · exact ⟨_, by assumption⟩
  · simp at h
theorem elemT_eq {t e : TypeId} (h : elemT P t = some e) : P.underlying t = some (.slice e) := by
  unfold elemT at h
  split at h
  · simp_all
  · simp at h
theorem run_underlying {t : TypeId} {d : TypeDesc} (h : P.underlying t = some d) : (underlying t).run P W = .ok d W := by
  simp [underlying, program, Sem.run, h]
theorem run_typeInfo {t : TypeId} {i : TypeInfo} (h : P.info? t = some i) : (typeInfo t).run P W = .ok i W := by
  simp [typeInfo, program, Sem.run, h]
theorem run_sizeOf {t : TypeId} {n : Nat} (h : sizeT P t = some n) : (sizeOf t).run P W = .ok n W := by
  unfold sizeT at h
  obtain ⟨i, hi, rfl⟩ := Option.map_eq_some_iff.1 h
  simp [sizeOf, run_typeInfo hi]
theorem run_zeroValue {t : TypeId} {v : TV} (h : zeroT P t = some v) : ∃ u, (zeroValue t).run P W = .ok u W ∧ ofVal u = some v ∧ ∃ i, P.info? t = some i ∧ i.zero = some u := by
  unfold zeroT at h
  obtain ⟨u, hu, hv⟩ := Option.bind_eq_some_iff.1 h
  obtain ⟨i, hi, hz⟩ := Option.bind_eq_some_iff.1 hu
  exact ⟨u, by simp [zeroValue, run_typeInfo hi, hz], hv, i, hi, hz⟩
theorem nilBin_run (op : BinOp) (t : TypeId) (x y : Value) (b : Bool) {r : Value} (h : nilBin op (some b) = some r) (hx : ∃ p n c, x = .slice p n c) (hy : ∃ p n c, y = .slice p n c) (he : (Op.equal t x y).run P W = .ok b W) : (binOp op t x y).run P W = .ok r W ∧ scalarV r = true := by
  obtain ⟨p, n, c, rfl⟩ := hx
  obtain ⟨p', n', c', rfl⟩ := hy
  cases op <;> simp_all [nilBin, binOp] <;> subst h <;> simp [scalarV]
theorem equalIn_slice_nil (d : Nat) {t e : TypeId} (ht : P.underlying t = some (.slice e)) (ad : Addr) (n c n' c' : Nat) : (Op.equalIn (d + 1) t (.slice (some ad) n c) (.slice none n' c')).run P W = .ok false W := by
  unfold Op.equalIn
  simp [run_underlying ht]
theorem equalIn_nil_nil (d : Nat) {t e : TypeId} (ht : P.underlying t = some (.slice e)) (n c n' c' : Nat) : (Op.equalIn (d + 1) t (.slice none n c) (.slice none n' c')).run P W = .ok true W := by
  unfold Op.equalIn
  simp [run_underlying ht]
theorem equalIn_bool (d : Nat) {t : TypeId} (ht : P.underlying t = some .bool) (x y : Bool) : (Op.equalIn (d + 1) t (.bool x) (.bool y)).run P W = .ok (x == y) W := by
  unfold Op.equalIn
  simp [run_underlying ht]
theorem equal_slice_nil {t e : TypeId} (ht : P.underlying t = some (.slice e)) (ad : Addr) (n c n' c' : Nat) : (Op.equal t (.slice (some ad) n c) (.slice none n' c')).run P W = .ok false W := equalIn_slice_nil 9999 ht ad n c n' c'
theorem equal_nil_nil {t e : TypeId} (ht : P.underlying t = some (.slice e)) (n c n' c' : Nat) : (Op.equal t (.slice none n c) (.slice none n' c')).run P W = .ok true W := equalIn_nil_nil 9999 ht n c n' c'
theorem equal_bool {t : TypeId} (ht : P.underlying t = some .bool) (x y : Bool) : (Op.equal t (.bool x) (.bool y)).run P W = .ok (x == y) W := equalIn_bool 9999 ht x y
theorem bin_run (op : BinOp) (t : TypeId) (x y : Operand) {v w : TV} {u z r : Value} (hv : Rep3 P S μ so W v u) (hw : Rep3 P S μ so W w z) (h : binTV P op t v w = some r) :
    (do eqGuard op t x y u z; binOp op t u z : Sem Value).run P W = .ok r W ∧ scalarV r = true := by
  unfold binTV at h
  split at h
  · obtain ⟨rfl, _⟩ := hv
    obtain ⟨rfl, _⟩ := hw
    simp only [Sem.run_bind, guard_scalar op t x y (.int _ _) _ rfl (by simp), Result.andThen_ok]
    split at h
    · exact binShift_run op t _ _ _ _ ‹_› h
    · split at h
      · rename_i hk; subst hk
        exact binInt_run op t _ _ _ (by simpa using ‹¬ isShift op = true›) h
      · simp at h
  · obtain ⟨rfl, _⟩ := hv
    obtain ⟨rfl, _⟩ := hw
    simp only [Sem.run_bind, guard_scalar op t x y (.string _) _ rfl (by simp), Result.andThen_ok]
    exact binStr_run op t _ _ h
  · obtain ⟨rfl, _⟩ := hv
    obtain ⟨rfl, _⟩ := hw
    simp only [Sem.run_bind, guard_scalar op t x y (.bool _) _ rfl (by simp), Result.andThen_ok]
    split at h
    · rename_i ht
      cases op <;> simp_all [binOp, equal_bool] <;> subst h <;> simp [scalarV]
    · simp at h
  · rename_i xs
    split at h
    · rename_i he
      obtain ⟨e, he⟩ := elemT_some he
      obtain rfl : z = .slice none 0 0 := hw
      cases xs with
      | nil => simp [nilness] at h; cases op <;> simp [nilBin] at h
      | cons x0 xs =>
        cases hv with
        | sl _ b c s f h1 h2 h3 h4 h5 h6 =>
          obtain ⟨ad, rfl⟩ := h3 (by simp)
          simp only [Sem.run_bind, guard_slice, Result.andThen_ok]
          exact nilBin_run op t _ _ false h ⟨_, _, _, rfl⟩ ⟨_, _, _, rfl⟩ (equal_slice_nil he ad _ _ _ _)
    · simp at h
  · split at h
    · rename_i he
      obtain ⟨e, he⟩ := elemT_some he
      obtain rfl : z = .slice none 0 0 := hw
      obtain rfl : u = .slice none 0 0 := hv
      simp only [Sem.run_bind, guard_slice, Result.andThen_ok]
      exact nilBin_run op t _ _ true h ⟨_, _, _, rfl⟩ ⟨_, _, _, rfl⟩ (equal_nil_nil he _ _ _ _)
    · simp at h
  · simp at h
theorem un_run (op : UnOp) {v : TV} {u r : Value} (hv : Rep3 P S μ so W v u) (h : unTV op v = some r) : (Op.unary op u).run P W = .ok r W ∧ scalarV r = true := by
  unfold unTV at h
  split at h
  · obtain ⟨rfl, _⟩ := hv
    cases op <;> simp at h <;> subst h <;> simp [Op.unary, Op.intArith, Op.intBits, scalarV]
  · obtain ⟨rfl, _⟩ := hv
    cases op <;> simp at h <;> subst h <;> simp [Op.unary, scalarV]
  · simp at h
end
end Go.Proofs.YtlhjljplfmmoaaaGreatDoor.Ev
/- Soundness of the evaluator, part 6: addresses and loads, slices, conversions. -/
namespace Go.Proofs.YtlhjljplfmmoaaaGreatDoor.Ev
open Go Go.RowKit
section
variable {P : Program} {S0 H : Nat → Prop} {n0 : Nat} {w0 : World} {st : St} {a : Act} {W : World} {A : List (Array Value)} {μ : Mu} {S : Nat → Prop} {so : Store}
theorem choose_list {Q : Nat → Value → Prop} (n : Nat) (h : ∀ j, j < n → ∃ u, Q j u) : ∃ us : List Value, us.length = n ∧ ∀ (j : Nat) (u : Value), us[j]? = some u → Q j u := by
  induction n with
  | zero => exact ⟨[], rfl, fun j u hj => by simp at hj⟩
  | succ n ih =>
    obtain ⟨us, h1, h2⟩ := ih fun j hj => h j (by omega)
    obtain ⟨u, hu⟩ := h n (by omega)
    refine ⟨us ++ [u], by simp [h1], fun j v hj => ?_⟩
    rw [List.getElem?_append] at hj
    split at hj
    · exact h2 j v hj
    · rename_i hlt
      have h0 : j - us.length = 0 := by
        rcases Nat.eq_zero_or_pos (j - us.length) with h | h
        · exact h
        · rw [List.getElem?_eq_none (by simp; omega)] at hj; simp at hj
      rw [h0] at hj
      obtain rfl : u = v := by simpa using hj
      have : j = n := by omega
      subst this
      exact hu
theorem isAgg_run {t : TypeId} {b : Bool} (h : isAggT P t = some b) : (isAgg t).run P W = .ok b W := by
  unfold isAggT at h
  split at h <;> simp at h <;> subst h <;> simp_all [isAgg, run_underlying]
theorem take_run {cs : List TV} {ad : Addr} (hc : ∀ (j : Nat) (c : TV), cs[j]? = some c → ∃ u, W.cell? (ad.add j) = some u ∧ Rep1 P S μ so W c u) {t : TypeId} {v : TV} (h : takeCells P t cs = some v) :
    ∃ u, (loadVar t ad).run P W = .ok u W ∧ Rep2 P S μ so W v u := by
  unfold takeCells at h
  split at h
  · rename_i ha
    split at h
    · rename_i n hn
      split at h
      · rename_i hle
        obtain rfl := Option.some.inj h
        obtain ⟨us, h1, h2⟩ := choose_list (Q := fun j u => W.cell? (ad.add j) = some u ∧ ∀ c, cs[j]? = some c → Rep1 P S μ so W c u) n fun j hj => by
          obtain ⟨u, hu, hr⟩ := hc j cs[j] (List.getElem?_eq_getElem (by omega))
          refine ⟨u, hu, fun c hc' => ?_⟩
          rw [List.getElem?_eq_getElem (by omega)] at hc'
          obtain rfl := Option.some.inj hc'
          exact hr
        refine ⟨.agg us.toArray, ?_, us.toArray, rfl, by simp [h1]; omega, fun j c hj => ?_⟩
        · have := run_loadCells_list (P := P) (w := W) ad us fun j u hu => (h2 j u hu).1
          simp [loadVar, isAgg_run ha, run_sizeOf hn, ← h1, this]
        · rw [List.getElem?_take] at hj
          split at hj
          · rename_i hlt
            have : us[j]? = some us[j] := List.getElem?_eq_getElem (by omega)
            exact ⟨us[j], by simp [List.getElem?_eq_getElem (show j < us.length by omega)], (h2 j _ this).2 c hj⟩
          · simp at hj
      · simp at h
    · simp at h
  · rename_i ha
    obtain ⟨h1, h2, _⟩ := told_some h
    subst h1
    obtain ⟨u, hu, hr⟩ := hc 0 _ (nth_some rfl h2)
    refine ⟨u, ?_, hr.one⟩
    have : ad.add 0 = ad := by simp [Addr.add]
    rw [this] at hu
    simp [loadVar, isAgg_run ha, run_load, hu]
  · simp at h
/-- A cell at rest is a slot's cell. -/
theorem Rep.tv1 {y : PV} {u : Value} (h : Rep S W y u) : Rep1 P S μ so W y.tv1 u := by
  cases h with
  | val _ hs => exact ⟨rfl, hs⟩
  | sl xs b c s f h1 h2 h3 h4 h5 h6 => exact .sl xs b c s f h1 h2 h3 h4 h5 h6
  | fn f xs ad s h1 h2 h3 => exact .fn f xs ad s h1 h2 h3
theorem RepV.tv {x : PV} {u : Value} (h : RepV S W x u) : Rep2 P S μ so W x.tv u := by
  cases x with
  | val _ => exact (Rep.tv1 h).one
  | sl _ => exact (Rep.tv1 h).one
  | fn _ _ => exact (Rep.tv1 h).one
  | agg cs =>
    obtain ⟨arr, rfl, hl, hc⟩ := h
    refine ⟨arr, rfl, by simp [hl], fun j c hj => ?_⟩
    rw [List.getElem?_map, Option.map_eq_some_iff] at hj
    obtain ⟨y, hy, rfl⟩ := hj
    obtain ⟨u, hu, hr⟩ := hc j y hy
    exact ⟨u, hu, hr.tv1⟩
theorem Rel.load (h : Rel P S0 n0 w0 H st a W A μ) {t : TypeId} {v r : TV} {u : Value} (hv : Rep3 P (free S0 n0 H μ st.so W) μ st.so W v u) (hl : loadTV P st.so t v = some r) :
    ∃ z, (Instr.loadAt t u).run P W = .ok z W ∧ Rep3 P (free S0 n0 H μ st.so W) μ st.so W r z := by
  unfold loadTV at hl
  split at hl
  · rename_i k i off
    obtain ⟨b, cap, h1, h2⟩ := hv
    split at hl
    · rename_i cs hk
      split at hl
      · rename_i hi
        subst hi
        rcases h2 with ⟨cs', h3, _, rfl⟩ | ⟨e, xs, s, h3, _⟩
        · obtain ⟨_, _, arr, t', g1, g2, g3⟩ := h.obj k _ hk _ h1
          obtain ⟨z, hz, hr⟩ := take_run (P := P) (S := free S0 n0 H μ st.so W) (μ := μ) (so := st.so) (W := W) (cs := cs.drop off) (ad := ⟨b, off, none⟩) (fun j c hj => by
            rw [List.getElem?_drop] at hj
            obtain ⟨u, hu, _, hr⟩ := g3 (off + j) c hj
            exact ⟨u, by rw [add_off, cell_of_row W b _ arr _ _ g1]; exact hu, hr⟩) hl
          exact ⟨z, by simpa [Instr.loadAt, Instr.sureAddr] using hz, hr.one⟩
        · rw [hk] at h3; simp at h3
      · simp at hl
    · rename_i e xs hk
      split at hl
      · rename_i x hx
        rcases h2 with ⟨cs', h3, _⟩ | ⟨e', xs', s, h3, hs, rfl⟩
        · rw [hk] at h3; simp at h3
        · obtain ⟨_, _, arr, s', g, g1, g2, g3, g4, g5, g6, g7, g8⟩ := h.obj k _ hk _ h1
          rw [hk] at h3
          obtain ⟨rfl, rfl⟩ : e = e' ∧ xs = xs' := by simpa using h3
          obtain rfl : s' = s := by rw [hs] at g2; simpa using g2.symm
          obtain ⟨z, hz, hr⟩ := take_run (P := P) (S := free S0 n0 H μ st.so W) (μ := μ) (so := st.so) (W := W) (cs := (x.cells.map PV.tv1).drop off) (ad := ⟨b, i * s' + off, none⟩) (fun j c hj => by
            rw [List.getElem?_drop, List.getElem?_map, Option.map_eq_some_iff] at hj
            obtain ⟨y, hy, rfl⟩ := hj
            obtain ⟨hc, hr⟩ := g8 i x (off + j) y hx hy
            exact ⟨_, by rw [add_off, cell_of_row W b _ arr _ _ g1, Nat.add_assoc]; exact hc, hr.tv1⟩) hl
          exact ⟨z, by simpa [Instr.loadAt, Instr.sureAddr] using hz, hr.one⟩
      · simp at hl
    · simp at hl
  · rename_i cs
    obtain ⟨ad, rfl, h1, h2⟩ := hv
    obtain ⟨z, hz, hr⟩ := take_run (P := P) (S := free S0 n0 H μ st.so W) (μ := μ) (so := st.so) (W := W) (cs := cs.map PV.tv1) (ad := ad) (fun j c hj => by
      rw [List.getElem?_map, Option.map_eq_some_iff] at hj
      obtain ⟨y, hy, rfl⟩ := hj
      obtain ⟨u, hu, hr⟩ := h2 j y hy
      exact ⟨u, hu, hr.tv1⟩) hl
    exact ⟨z, by simpa [Instr.loadAt, Instr.sureAddr] using hz, hr.one⟩
  · simp at hl
theorem fieldT_some {s : TypeId} {f : Nat} {fd : Field} (h : fieldT P s f = some fd) : ∃ fs, P.underlying s = some (.struct fs) ∧ fs[f]? = some fd := by
  unfold fieldT at h
  split at h
  · exact ⟨_, by assumption, h⟩
  · simp at h
theorem add_add (ad : Addr) (m n : Nat) : (ad.add m).add n = ad.add (m + n) := by
  unfold Addr.add
  by_cases hm : m = 0 <;> by_cases hn : n = 0 <;> simp [hm, hn, Nat.add_assoc]
theorem fieldAddr_run {s : TypeId} {f : Nat} {v r : TV} {u : Value} (hv : Rep3 P S μ so W v u) (h : fieldAddrTV P s f v = some r) :
    ∃ z, (Instr.fieldAt s u f).run P W = .ok z W ∧ Rep3 P S μ so W r z := by
  unfold fieldAddrTV at h
  split at h
  · simp at h
  · rename_i fd hfd
    obtain ⟨fs, h1, h2⟩ := fieldT_some hfd
    split at h
    · simp at h
    · rename_i n hsz
      split at h
      · simp at h
      · rename_i hz
        have key : ∀ ad : Addr, (Instr.fieldAt s (.pointer (some ad)) f).run P W = .ok (.pointer (some (ad.add fd.offset))) W := fun ad => by
          simp [Instr.fieldAt, run_underlying h1, h2, Instr.sureAddr, fieldPlace, run_sizeOf hsz, hz]
        split at h
        · rename_i k i off
          obtain rfl := Option.some.inj h
          obtain ⟨b, cap, g1, g2⟩ := hv
          rcases g2 with ⟨cs, g3, rfl, rfl⟩ | ⟨e, xs, s', g3, g4, rfl⟩
          · exact ⟨_, key _, b, cap, g1, .inl ⟨cs, g3, rfl, by rw [add_off]⟩⟩
          · exact ⟨_, key _, b, cap, g1, .inr ⟨e, xs, s', g3, g4, by rw [add_off, Nat.add_assoc]⟩⟩
        · rename_i cs
          obtain rfl := Option.some.inj h
          obtain ⟨ad, rfl, g1, g2⟩ := hv
          refine ⟨_, key _, ad.add fd.offset, rfl, by rw [add_block]; exact g1, fun j y hj => ?_⟩
          rw [List.getElem?_drop] at hj
          rw [add_add]
          exact g2 _ _ hj
        · simp at h
/-- A part of a struct's or an array's cells. -/
theorem part_run {cs : List TV} {arr : Array Value} {off : Nat} (hc : ∀ (j : Nat) (c : TV), cs[j]? = some c → ∃ u, arr[off + j]? = some u ∧ Rep1 P S μ so W c u) {t : TypeId} {v : TV} (h : takeCells P t cs = some v) :
    ∃ u, (part t arr off).run P W = .ok u W ∧ Rep2 P S μ so W v u := by
  unfold takeCells at h
  split at h
  · rename_i ha
    split at h
    · rename_i n hn
      split at h
      · rename_i hle
        obtain rfl := Option.some.inj h
        have hsz : n = 0 ∨ off + n ≤ arr.size := by
          rcases Nat.eq_zero_or_pos n with h0 | h0
          · exact .inl h0
          · obtain ⟨u, hu, _⟩ := hc (n - 1) cs[n - 1] (List.getElem?_eq_getElem (by omega))
            have := (Array.getElem?_eq_some_iff.1 hu).1
            exact .inr (by omega)
        refine ⟨.agg (arr.extract off (off + n)), by simp [part, isAgg_run ha, run_sizeOf hn], _, rfl, by simp; omega, fun j c hj => ?_⟩
        rw [List.getElem?_take] at hj
        split at hj
        · rename_i hlt
          obtain ⟨u, hu, hr⟩ := hc j c hj
          exact ⟨u, by rw [Array.getElem?_extract, if_pos (by omega)]; exact hu, hr⟩
        · simp at hj
      · simp at h
    · simp at h
  · rename_i ha
    obtain ⟨h1, h2, _⟩ := told_some h
    subst h1
    obtain ⟨u, hu, hr⟩ := hc 0 _ (nth_some rfl h2)
    exact ⟨u, by simp [part, isAgg_run ha]; simp at hu; simp [hu], hr.one⟩
  · simp at h
theorem field_run {s : TypeId} {f : Nat} {v r : TV} {u : Value} (hv : Rep3 P S μ so W v u) (h : fieldTV P s f v = some r) :
    ∃ z, (Instr.field s u f).run P W = .ok z W ∧ Rep3 P S μ so W r z := by
  unfold fieldTV at h
  split at h
  · rename_i fd cs hfd
    obtain ⟨fs, h1, h2⟩ := fieldT_some hfd
    obtain ⟨arr, rfl, hl, hc⟩ := hv
    obtain ⟨z, hz, hr⟩ := part_run (P := P) (S := S) (μ := μ) (so := so) (W := W) (cs := cs.drop fd.offset) (arr := arr) (off := fd.offset) (fun j c hj => by
      rw [List.getElem?_drop] at hj
      exact hc _ _ hj) h
    exact ⟨z, by simp [Instr.field, run_underlying h1, h2, asAgg, hz], hr.one⟩
  · simp at h
theorem extract_run {i : Nat} {ts : List TV} {r : TV} {u : Value} (hv : Rep3 P S μ so W (.tup ts) u) (h : told (nth ts i) = some r) :
    ∃ z, (Instr.extract u i).run P W = .ok z W ∧ Rep3 P S μ so W r z := by
  obtain ⟨arr, rfl, hl, hc⟩ := hv
  obtain ⟨h1, h2, _⟩ := told_some h
  subst h1
  obtain ⟨z, hz, hr⟩ := hc i _ (nth_some rfl h2)
  exact ⟨z, by simp [Instr.extract, hz], hr.one⟩
theorem intOf?_rep {v : TV} {u : Value} {n : Int} (hv : Rep3 P S μ so W v u) (h : intOf? v = some n) : ∃ k, u = .int k n := by
  unfold intOf? at h
  split at h
  · obtain rfl := Option.some.inj h
    exact ⟨_, hv.1⟩
  · simp at h
theorem indexAddr_run {t : TypeId} {v w r : TV} {u z : Value} (hv : Rep3 P S μ so W v u) (hw : Rep3 P S μ so W w z) (h : indexAddrTV P so t v (some w) = some r) :
    ∃ x, (Instr.indexAt t u z).run P W = .ok x W ∧ Rep3 P S μ so W r x := by
  unfold indexAddrTV at h
  split at h
  · simp at h
  · rename_i i hi
    obtain ⟨k, rfl⟩ := intOf?_rep hw (by simpa using hi)
    split at h
    · rename_i e xs ht
      split at h
      · rename_i hb
        split at h
        · rename_i x hx
          split at h
          · rename_i hsz
            obtain rfl := Option.some.inj h
            cases hv with
            | sl _ b c s f h1 h2 h3 h4 h5 h6 =>
              obtain ⟨ad, rfl⟩ := h3 (by rintro rfl; simp at hx)
              have hs := h4 x (List.mem_of_getElem? hx)
              rw [hs] at hsz
              refine ⟨.pointer (some (ad.add (i.toNat * s))), ?_, ad.add (i.toNat * s), rfl, ?_, fun j y hj => ?_⟩
              · simp [Instr.indexAt, asIntOf, run_underlying ht, hb, run_sizeOf hsz]
              · rw [add_block]; exact (h5 ad rfl _ x hx).1
              · exact ⟨_, by rw [add_add]; exact (h5 ad rfl _ x hx).2 j y hj, h6 _ x j y hx hj⟩
          · simp at h
        · simp at h
      · simp at h
    · rename_i e kk off len ht
      split at h
      · rename_i e' xs hk
        split at h
        · rename_i hb
          obtain ⟨rfl, hb0, hb1⟩ := hb
          obtain rfl := Option.some.inj h
          obtain ⟨e2, xs2, s, g1, g2, g3, g4⟩ := hv
          rw [hk] at g1
          obtain ⟨rfl, rfl⟩ : e' = e2 ∧ xs = xs2 := by simpa using g1
          rcases g4 with ⟨_, rfl, _⟩ | ⟨b, cap, ad, c, g5, rfl, g6, g7, g8⟩
          · simp at g3; omega
          · obtain ⟨rfl, g9⟩ := g8 (.inr (by omega))
            refine ⟨.pointer (some ⟨b, off * s + i.toNat * s, none⟩), ?_, b, cap, g5, .inr ⟨e', xs, s, hk, g2, by rw [Nat.add_mul]; rfl⟩⟩
            simp [Instr.indexAt, asIntOf, run_underlying ht, hb0, hb1, run_sizeOf g2, add_off]
        · simp at h
      · simp at h
    · rename_i n e kk j off ht
      split at h
      · rename_i hb
        obtain ⟨s, hs, rfl⟩ := Option.map_eq_some_iff.1 h
        obtain ⟨b, cap, g1, g2⟩ := hv
        rcases g2 with ⟨cs, g3, rfl, rfl⟩ | ⟨e', xs, s', g3, g4, rfl⟩
        · exact ⟨.pointer (some ⟨b, off + i.toNat * s, none⟩), by simp [Instr.indexAt, asIntOf, run_underlying ht, hb, run_sizeOf hs, Instr.sureAddr, add_off], b, cap, g1, .inl ⟨cs, g3, rfl, rfl⟩⟩
        · exact ⟨.pointer (some ⟨b, j * s' + off + i.toNat * s, none⟩), by simp [Instr.indexAt, asIntOf, run_underlying ht, hb, run_sizeOf hs, Instr.sureAddr, add_off], b, cap, g1, .inr ⟨e', xs, s', g3, g4, by rw [Nat.add_assoc]⟩⟩
      · simp at h
    · simp at h
theorem index_run {t : TypeId} {v w r : TV} {u z : Value} (hv : Rep3 P S μ so W v u) (hw : Rep3 P S μ so W w z) (h : indexTV P t v (some w) = some r) :
    ∃ x, (Instr.index t u z).run P W = .ok x W ∧ Rep3 P S μ so W r x := by
  unfold indexTV at h
  split at h
  · simp at h
  · rename_i i hi
    obtain ⟨k, rfl⟩ := intOf?_rep hw (by simpa using hi)
    split at h
    · rename_i s ht
      obtain ⟨rfl, _⟩ := hv
      split at h
      · rename_i hb
        split at h
        · rename_i b hx
          obtain rfl := Option.some.inj h
          exact ⟨.int .u8 b.toNat, by simp [Instr.index, asIntOf, run_underlying ht, hb, hx], rfl, rfl⟩
        · simp at h
      · simp at h
    · rename_i n e cs ht
      obtain ⟨arr, rfl, hl, hc⟩ := hv
      split at h
      · rename_i hb
        obtain ⟨hb0, hb1, hs, ha⟩ := hb
        obtain ⟨h1, h2, _⟩ := told_some h
        subst h1
        obtain ⟨x, hx, hr⟩ := hc _ _ (nth_some rfl h2)
        exact ⟨x, by simp [Instr.index, asIntOf, run_underlying ht, hb0, hb1, run_sizeOf hs, part, isAgg_run ha, hx], hr.one.one⟩
      · simp at h
    · simp at h
end
end Go.Proofs.YtlhjljplfmmoaaaGreatDoor.Ev
/- Soundness of the evaluator, part 7: slices' cuts, conversions, what is built. -/
namespace Go.Proofs.YtlhjljplfmmoaaaGreatDoor.Ev
open Go Go.RowKit
section
variable {P : Program} {S0 H : Nat → Prop} {n0 : Nat} {w0 : World} {st : St} {a : Act} {W : World} {A : List (Array Value)} {μ : Mu} {S : Nat → Prop} {so : Store}
/-- An operand that may be left out, and what the machine has of it. -/
def RepOpt (P : Program) (S : Nat → Prop) (μ : Mu) (so : Store) (W : World) : Option (Option TV) → Option Value → Prop
  | none, none => True
  | some (some v), some u => Rep3 P S μ so W v u
  | some none, some _ => True
  | _, _ => False
theorem boundV_rep {x : Option (Option TV)} {y : Option Value} {d : Nat} {n : Int} (h : RepOpt P S μ so W x y) (hv : boundV x d = some n) : (x = none ∧ y = none ∧ n = d) ∨ ∃ k, x.isSome = true ∧ y = some (.int k n) := by
  unfold boundV at hv
  split at hv
  · obtain rfl := Option.some.inj hv
    cases y with
    | none => exact .inl ⟨rfl, rfl, rfl⟩
    | some _ => exact h.elim
  · obtain rfl := Option.some.inj hv
    cases y with
    | none => exact h.elim
    | some u => exact .inr ⟨_, rfl, by rw [show u = _ from h.1]⟩
  · simp at hv
theorem bounds_run {isSlice : Bool} {len cap : Nat} {lo hi mx : Option (Option TV)} {lo' hi' mx' : Option Value} (h1 : RepOpt P S μ so W lo lo') (h2 : RepOpt P S μ so W hi hi') (h3 : RepOpt P S μ so W mx mx') (hc : len ≤ cap) {l h : Nat}
    (hb : bounds len lo hi mx = some (l, h)) : l ≤ h ∧ h ≤ len ∧ ∃ m, h ≤ m ∧ (mx = none → m = cap) ∧ (m ≤ cap) ∧ (Instr.sliceBounds isSlice len cap lo' hi' mx').run P W = .ok (l, h, m) W := by
  unfold bounds at hb
  split at hb
  · rename_i x y z hx hy hz
    split at hb
    · rename_i hk
      obtain ⟨k1, k2, k3, k4, k5⟩ := hk
      simp only [Option.some.injEq, Prod.mk.injEq] at hb
      obtain ⟨rfl, rfl⟩ := hb
      refine ⟨by omega, by omega, ?_⟩
      rcases boundV_rep h3 hz with ⟨rfl, rfl, rfl⟩ | ⟨k, h3', rfl⟩
      · refine ⟨cap, by omega, fun _ => rfl, Nat.le_refl _, ?_⟩
        rcases boundV_rep h1 hx with ⟨rfl, rfl, rfl⟩ | ⟨k, h1', rfl⟩ <;> rcases boundV_rep h2 hy with ⟨rfl, rfl, rfl⟩ | ⟨k', h2', rfl⟩ <;>
          simp [Instr.sliceBounds, Instr.sliceBound, asIntOf] <;> (repeat' (first | omega | (rw [if_pos (by omega)]; simp; done) | rw [if_pos (by omega)] | (intro _; omega) | constructor))
      · refine ⟨z.toNat, by omega, fun h => by simp [h] at h3', by omega, ?_⟩
        rcases boundV_rep h1 hx with ⟨rfl, rfl, rfl⟩ | ⟨k, h1', rfl⟩ <;> rcases boundV_rep h2 hy with ⟨rfl, rfl, rfl⟩ | ⟨k', h2', rfl⟩ <;>
          first | (have hk5 := k5 h3'; simp at hk5; done) | (simp [Instr.sliceBounds, Instr.sliceBound, asIntOf] <;> (repeat' (first | omega | (rw [if_pos (by omega)]; simp; done) | rw [if_pos (by omega)] | (intro _; omega) | constructor)))
    · simp at hb
  · simp at hb
theorem sizedAll_mem {n : Nat} {xs : List PV} (h : sizedAll n xs = true) : ∀ x, x ∈ xs → x.cells.length = n := by
  induction xs with
  | nil => intro x hx; simp at hx
  | cons y t ih =>
    simp only [sizedAll, Bool.and_eq_true, beq_iff_eq] at h
    intro x hx
    rcases List.mem_cons.1 hx with rfl | hx
    · exact h.1
    · exact ih h.2 x hx
/-- A part of a list that is read. -/
theorem Rep.cut {xs : List PV} {b : Option Addr} {c s : Nat} (h : Rep S W (.sl xs) (.slice b xs.length c)) (hs : ∀ x, x ∈ xs → x.cells.length = s) {l k m : Nat} (h1 : l ≤ k) (h2 : k ≤ xs.length) (h3 : k ≤ m) (h4 : m ≤ c) :
    Rep S W (.sl ((xs.take k).drop l)) (.slice (if m = l then b else b.map (·.add (l * s))) (k - l) (m - l)) := by
  cases h with
  | sl _ _ _ s' f g1 g2 g3 g4 g5 g6 =>
    have hlen : ((xs.take k).drop l).length = k - l := by rw [List.length_drop, List.length_take]; omega
    have hix : ∀ (i : Nat) (x : PV), ((xs.take k).drop l)[i]? = some x → xs[l + i]? = some x ∧ l < k := fun i x hx => by
      have hlt := (List.getElem?_eq_some_iff.1 hx).1
      rw [List.getElem?_drop, List.getElem?_take] at hx
      split at hx
      · exact ⟨hx, by omega⟩
      · simp at hx
    have := Rep.sl (S := S) (W := W) ((xs.take k).drop l) (if m = l then b else b.map (·.add (l * s))) (m - l) s (fun i j => f (l + i) j) (by rw [hlen]; omega) (by omega) ?_ ?_ ?_ ?_
    · rw [hlen] at this
      exact this
    · intro hne
      obtain ⟨ad, rfl⟩ := g3 (by rintro rfl; simp at hne)
      split <;> exact ⟨_, rfl⟩
    · intro x hx
      exact hs x (List.mem_of_mem_take (List.mem_of_mem_drop hx))
    · intro ad ha i x hx
      obtain ⟨hx', hlt⟩ := hix i x hx
      rw [if_neg (by omega)] at ha
      obtain ⟨ad0, rfl, rfl⟩ := Option.map_eq_some_iff.1 ha
      obtain ⟨q1, q2⟩ := g5 ad0 rfl _ x hx'
      refine ⟨by rw [add_block]; exact q1, fun j y hy => ?_⟩
      have hss : s' = s := by rw [← g4 x (List.mem_of_getElem? hx'), hs x (List.mem_of_getElem? hx')]
      rw [add_add, ← Nat.add_assoc, ← Nat.add_mul, ← hss]
      exact q2 j y hy
    · intro i x j y hx hy
      exact g6 _ x j y (hix i x hx).1 hy
theorem slice_run {t : TypeId} {lo hi mx : Option (Option TV)} {lo' hi' mx' : Option Value} (h1 : RepOpt P S μ so W lo lo') (h2 : RepOpt P S μ so W hi hi') (h3 : RepOpt P S μ so W mx mx') {v r : TV} {u : Value} (hv : Rep3 P S μ so W v u)
    (h : sliceTV P so t lo hi mx v = some r) : ∃ z, (Instr.sliceAt t u lo' hi' mx').run P W = .ok z W ∧ Rep3 P S μ so W r z := by
  unfold sliceTV at h
  split at h
  · rename_i s ht
    obtain ⟨rfl, _⟩ := hv
    split at h
    · unfold cutStr at h
      split at h
      · rename_i l k hb
        obtain rfl := Option.some.inj h
        cases mx' with
        | some _ => exact h3.elim
        | none =>
          obtain ⟨g1, g2, m, g3, g4, g5, g6⟩ := bounds_run (P := P) (W := W) (isSlice := false) h1 h2 h3 (Nat.le_refl s.size) hb
          exact ⟨.string (s.extract l k), by simp [Instr.sliceAt, run_underlying ht, Instr.slice, g6], rfl, rfl⟩
      · simp at h
    · simp at h
  · rename_i e xs ht
    split at h
    · rename_i n hn
      split at h
      · rename_i hs
        unfold cutSl at h
        split at h
        · rename_i l k hb
          obtain rfl := Option.some.inj h
          have hv0 := hv
          cases hv with
          | sl _ b c s' f q1 q2 q3 q4 q5 q6 =>
            obtain ⟨g1, g2, m, g3, g4, g5, g6⟩ := bounds_run (P := P) (W := W) (isSlice := true) h1 h2 h3 q1 hb
            refine ⟨_, ?_, Rep.cut hv0 (sizedAll_mem hs) g1 g2 g3 g5⟩
            simp [Instr.sliceAt, run_underlying ht, Instr.slice, g6, run_sizeOf hn]
        · simp at h
      · simp at h
    · simp at h
  · rename_i e ht
    split at h
    · rename_i hn
      obtain ⟨n, hn⟩ := Option.isSome_iff_exists.1 hn
      unfold cutNil at h
      split at h
      · rename_i lk hb
        obtain ⟨l, k⟩ := lk
        obtain rfl := Option.some.inj h
        obtain rfl : u = .slice none 0 0 := hv
        obtain ⟨g1, g2, m, g3, g4, g5, g6⟩ := bounds_run (P := P) (W := W) (isSlice := true) h1 h2 h3 (Nat.le_refl 0) hb
        obtain rfl : k = 0 := by omega
        obtain rfl : l = 0 := by omega
        obtain rfl : m = 0 := by omega
        exact ⟨.slice none 0 0, by simp [Instr.sliceAt, run_underlying ht, Instr.slice, g6, run_sizeOf hn], rfl⟩
      · simp at h
    · simp at h
  · rename_i e kk off len ht
    split at h
    · rename_i e' xs hk
      split at h
      · rename_i he
        subst he
        unfold cutRow at h
        split at h
        · rename_i l k hb
          obtain rfl := Option.some.inj h
          cases mx' with
          | some _ => exact h3.elim
          | none =>
            obtain ⟨e2, xs2, s, q1, q2, q3, q4⟩ := hv
            rw [hk] at q1
            obtain ⟨rfl, rfl⟩ : e' = e2 ∧ xs = xs2 := by simpa using q1
            rcases q4 with ⟨q5, rfl, rfl⟩ | ⟨b, cap, ad, c, q5, rfl, q6, q7, q8⟩
            · have h0 : off = 0 ∧ len = 0 := by simp at q3; omega
              obtain ⟨rfl, rfl⟩ := h0
              obtain ⟨g1, g2, m, g3, g4, g5, g6⟩ := bounds_run (P := P) (W := W) (isSlice := true) h1 h2 h3 (Nat.le_refl 0) hb
              obtain rfl : k = 0 := by omega
              obtain rfl : l = 0 := by omega
              obtain rfl : m = 0 := by omega
              exact ⟨.slice none 0 0, by simp [Instr.sliceAt, run_underlying ht, Instr.slice, g6, run_sizeOf q2], e', [], s, hk, q2, by simp, .inl ⟨q5, rfl, rfl⟩⟩
            · obtain ⟨g1, g2, m, g3, g4, g5, g6⟩ := bounds_run (P := P) (W := W) (isSlice := true) h1 h2 h3 q6 hb
              obtain rfl := g4 rfl
              refine ⟨.slice (if m = l then ad else ad.map (·.add (l * s))) (k - l) (m - l), by simp [Instr.sliceAt, run_underlying ht, Instr.slice, g6, run_sizeOf q2], e', xs, s, hk, q2, by omega, .inr ⟨b, cap, _, _, q5, rfl, by omega, by omega, fun hor => ?_⟩⟩
              have hact : off = 0 ∨ 0 < len := by omega
              obtain ⟨rfl, q9⟩ := q8 hact
              refine ⟨?_, by omega⟩
              by_cases hm : m = l
              · rw [if_pos hm]
                have : l = 0 ∧ off = 0 := by omega
                obtain ⟨rfl, rfl⟩ := this
                simp
              · rw [if_neg hm]
                simp [add_off, Nat.add_mul]
        · simp at h
      · simp at h
    · simp at h
  · simp at h
end
end Go.Proofs.YtlhjljplfmmoaaaGreatDoor.Ev
/- Soundness of the evaluator, part 8: conversions, len, max, min, what is built. -/
namespace Go.Proofs.YtlhjljplfmmoaaaGreatDoor.Ev
open Go Go.RowKit
section
variable {P : Program} {S0 H : Nat → Prop} {n0 : Nat} {w0 : World} {st : St} {a : Act} {W : World} {A : List (Array Value)} {μ : Mu} {S : Nat → Prop} {so : Store}
theorem Rel.elems (h : Rel P S0 n0 w0 H st a W A μ) {v : TV} {u : Value} {xs : List PV} (hv : elems st.so v = some xs) (hr : Rep3 P (free S0 n0 H μ st.so W) μ st.so W v u) : Rep (fun _ => True) W (.sl xs) u := by
  unfold Ev.elems at hv
  split at hv
  · rename_i ys hys
    obtain rfl := Option.some.inj hv
    have hn := (toPV1_notagg hys).2
    refine h.pv1 (fun _ _ => trivial) hys ?_ (fun _ _ _ _ _ _ _ => trivial)
    cases v <;> first | exact hr | (exact absurd rfl (hn _)) | (simp [toPV1] at hys)
  · simp at hv
theorem isU8_some {e : TypeId} (h : isU8 P e = true) : P.underlying e = some (.int .u8) := by
  unfold isU8 at h
  split at h
  · assumption
  · simp at h
theorem strOf_ints : ∀ {xs : List PV} {bs : List UInt8}, strOf xs = some bs → ∃ ns : List Int, xs = ns.map (fun n => .val (.int .u8 n)) ∧ bs = ns.map fun n => UInt8.ofNat n.toNat := by
  intro xs
  induction xs with
  | nil => intro bs h; simp [strOf] at h; subst h; exact ⟨[], rfl, rfl⟩
  | cons x t ih =>
    intro bs h
    unfold strOf at h
    split at h
    · simp at *
    · rename_i n t' he
      obtain ⟨rfl, rfl⟩ := List.cons.inj he
      obtain ⟨bs', hb, rfl⟩ := Option.map_eq_some_iff.1 h
      obtain ⟨ns, rfl, rfl⟩ := ih hb
      exact ⟨n :: ns, rfl, rfl⟩
    · simp at h
theorem foldl_push (ns : List Int) (s : ByteArray) : ns.foldl (fun r n => r.push (UInt8.ofNat n.toNat)) s = ⟨s.data ++ (ns.map fun n => UInt8.ofNat n.toNat).toArray⟩ := by
  induction ns generalizing s with
  | nil => simp
  | cons n ns ih =>
    rw [List.foldl_cons, ih]
    simp [ByteArray.push]
theorem bytes_run {xs : List PV} {bs : List UInt8} {u : Value} (h : Rep S W (.sl xs) u) (hs : strOf xs = some bs) : (Conv.bytesToString u).run P W = .ok (.string ⟨bs.toArray⟩) W := by
  obtain ⟨ns, rfl, rfl⟩ := strOf_ints hs
  cases h with
  | sl _ b c s f h1 h2 h3 h4 h5 h6 =>
    cases b with
    | none =>
      cases ns with
      | nil => simp [Conv.bytesToString]; rfl
      | cons n ns => obtain ⟨ad, hh⟩ := h3 (by simp); simp at hh
    | some ad =>
      have hl := run_loadCells_list (P := P) (w := W) ad (ns.map (Value.int .u8)) (fun j v hj => by
        rw [List.getElem?_map, Option.map_eq_some_iff] at hj
        obtain ⟨n, hn, rfl⟩ := hj
        have hx : (ns.map fun n => PV.val (.int .u8 n))[j]? = some (.val (.int .u8 n)) := by rw [List.getElem?_map, hn]; rfl
        have hs1 : s = 1 := (h4 _ (List.mem_of_getElem? hx)).symm
        subst hs1
        have h7 := (h5 ad rfl j _ hx).2 0 (.val (.int .u8 n)) rfl
        have h8 := h6 j _ 0 (.val (.int .u8 n)) hx rfl
        have h9 : f j 0 = .int .u8 n := by
          generalize f j 0 = q at h8
          cases h8
          rfl
        rw [h9] at h7
        simpa using h7)
      have := run_bytesToString (P := P) W ad ns.length c ns (by simpa using hl)
      rw [foldl_push] at this
      simpa using this
theorem int_scalar (k : IntKind) (n : Int) : Rep S W (.val (.int k n)) (.int k n) := .val _ rfl
theorem u8s_rep {s : ByteArray} (c : Nat) (hc1 : s.size ≤ c) (hc2 : c ≤ maxLen) (b : Nat) (hS : S b) (hcell : ∀ j, j < s.size → W.cell? ⟨b, j, none⟩ = some (.int .u8 (s.data.toList.getD j 0).toNat)) :
    Rep S W (.sl (u8s s)) (.slice (some ⟨b, 0, none⟩) s.size c) := by
  have hl : (u8s s).length = s.size := by simp [u8s]
  have hix : ∀ (i : Nat) (x : PV), (u8s s)[i]? = some x → i < s.size ∧ x = .val (.int .u8 (s.data.toList.getD i 0).toNat) := fun i x hx => by
    have hlt := (List.getElem?_eq_some_iff.1 hx).1
    rw [hl] at hlt
    refine ⟨hlt, ?_⟩
    simp only [u8s, List.getElem?_map, Option.map_eq_some_iff] at hx
    obtain ⟨b', hb', rfl⟩ := hx
    rw [List.getD, hb']
    rfl
  have := Rep.sl (S := S) (W := W) (u8s s) (some ⟨b, 0, none⟩) c 1 (fun i _ => .int .u8 (s.data.toList.getD i 0).toNat) (by rw [hl]; exact hc1) hc2 (fun _ => ⟨_, rfl⟩) ?_ ?_ ?_
  · rw [hl] at this; exact this
  · intro x hx
    obtain ⟨i, hi⟩ := List.mem_iff_getElem?.1 hx
    rw [(hix i x hi).2]
    rfl
  · intro ad ha i x hx
    obtain rfl : (⟨b, 0, none⟩ : Addr) = ad := by simpa using ha
    refine ⟨hS, fun j y hy => ?_⟩
    obtain ⟨hlt, rfl⟩ := hix i x hx
    have hj : j = 0 := by
      have := (List.getElem?_eq_some_iff.1 hy).1
      simp [PV.cells] at this
      omega
    subst hj
    rw [add_plain]
    simpa using hcell i hlt
  · intro i x j y hx hy
    obtain ⟨hlt, rfl⟩ := hix i x hx
    simp only [PV.cells] at hy
    cases j with
    | zero =>
      have hy' := Option.some.inj hy
      rw [← hy']
      exact .val _ rfl
    | succ j => simp at hy
/-- A new block that nobody names: it may be read. -/
theorem Rel.fresh (h : Rel P S0 n0 w0 H st a W A μ) (hH : ¬ H W.heap.size) {W' : World} (hsz : W'.heap.size = W.heap.size + 1) (hB : Below W.heap.size W W') :
    Rel P S0 n0 w0 H st a W' A μ ∧ free S0 n0 H μ st.so W' W.heap.size := by
  refine ⟨h.world (h.below.trans (hB.mono h.old)) (by omega) (fun b hb _ => hB.block b hb) (fun b hb => .inl hb), .inr h.old, hH, by omega, fun k c hk hc he => ?_⟩
  obtain ⟨o, ho⟩ := Option.isSome_iff_exists.1 hk
  have := (h.obj k o ho c hc).2.1
  omega
theorem conv_run (h : Rel P S0 n0 w0 H st a W A μ) (hH : ¬ H W.heap.size) {src dst : TypeId} {v r : TV} {u : Value} (hv : Rep3 P (free S0 n0 H μ st.so W) μ st.so W v u) (hc : convTV P st.so src dst v = some r) :
    ∃ z W', (convert src dst u).run P W = .ok z W' ∧ Rel P S0 n0 w0 H st a W' A μ ∧ Rep3 P (free S0 n0 H μ st.so W') μ st.so W' r z := by
  unfold convTV at hc
  split at hc
  · rename_i k1 k k2 n hs hd
    obtain rfl := Option.some.inj hc
    obtain ⟨rfl, _⟩ := hv
    exact ⟨_, W, by simp [convert, run_underlying hs, run_underlying hd, Conv.intToInt], h, rfl, rfl⟩
  · rename_i s hs hd
    obtain rfl := Option.some.inj hc
    obtain ⟨rfl, _⟩ := hv
    exact ⟨_, W, by simp [convert, run_underlying hs, run_underlying hd], h, rfl, rfl⟩
  · rename_i e s hs hd
    split at hc
    · rename_i he
      obtain rfl := Option.some.inj hc
      obtain ⟨rfl, _⟩ := hv
      have hB : Below W.heap.size W (Lib.bytesWorld W e s) := ⟨rfl, rfl, rfl, by rw [Lib.bytesWorld_size]; omega, fun k hk => Lib.bytesWorld_at_old W e s k hk⟩
      obtain ⟨h1, h2⟩ := h.fresh hH (Lib.bytesWorld_size W e s) hB
      exact ⟨_, _, Lib.run_convert_string_bytes W src dst e s hs hd (isU8_some he.1), h1,
        u8s_rep _ (grownCap_ge W s.size 0 e) (grownCap_le_maxLen W s.size 0 e (by simp only [maxLen]; omega)) _ h2 fun j hj => Lib.bytesWorld_cell W e s j hj⟩
    · simp at hc
  · rename_i e hs hd
    split at hc
    · rename_i he
      split at hc
      · rename_i xs hxs
        obtain ⟨bs, hbs, rfl⟩ := Option.map_eq_some_iff.1 hc
        have hr := h.elems hxs hv
        have hb := bytes_run (P := P) hr hbs
        cases hr with
        | sl _ b c s f h1 h2 h3 h4 h5 h6 =>
          exact ⟨_, W, (run_convert_bytes_string W src dst e b _ c hs (isU8_some he) hd).trans hb, h, rfl, rfl⟩
      · simp at hc
    · simp at hc
  · simp at hc
/-- Operands side by side. -/
def RepL (P : Program) (S : Nat → Prop) (μ : Mu) (so : Store) (W : World) : List (Option TV) → List Value → Prop
  | [], [] => True
  | some v :: t, u :: us => Rep3 P S μ so W v u ∧ RepL P S μ so W t us
  | none :: t, _ :: us => RepL P S μ so W t us
  | _, _ => False
theorem Rel.args (h : Rel P S0 n0 w0 H st a W A μ) : ∀ (xs : List Operand), RepL P (free S0 n0 H μ st.so W) μ st.so W (rdArgs (rdv st.tm) xs) (xs.map a.eval) := by
  intro xs
  induction xs with
  | nil => trivial
  | cons x t ih =>
    simp only [rdArgs, List.map_cons]
    cases hx : rdv st.tm x with
    | none => exact ih
    | some v => exact ⟨h.eval hx, ih⟩
theorem len_run {t ty : TypeId} {v : TV} {u : Value} {n : Int} (hv : Rep3 P S μ so W v u) (hl : lenTV P t v = some n) : (Builtin.len_ #[t] ty #[u]).run P W = .ok (.int .i64 n) W := by
  unfold lenTV at hl
  split at hl <;> simp at hl
  · rename_i s ht
    obtain ⟨rfl, _⟩ := hv
    subst hl
    simp [Builtin.len_, run_underlying ht, goInt]
  · rename_i e ht
    obtain rfl : u = .slice none 0 0 := hv
    subst hl
    simp [Builtin.len_, run_underlying ht, goInt]
  · rename_i e xs ht
    subst hl
    cases hv with
    | sl _ b c s f h1 h2 h3 h4 h5 h6 => simp [Builtin.len_, run_underlying ht, goInt]
  · rename_i e k off len ht
    subst hl
    obtain ⟨e, xs, s, h1, h2, h3, ⟨h4, rfl, rfl⟩ | ⟨b, cap, ad, c, h4, rfl, _⟩⟩ := hv
    · have : len = 0 := by simp at h3; omega
      subst this
      simp [Builtin.len_, run_underlying ht, goInt]
    · simp [Builtin.len_, run_underlying ht, goInt]
theorem best1_run (mx : Bool) (k : IntKind) : ∀ (xs : List (Option TV)) (us : List Value) (i : Int) (r : Value), RepL P S μ so W xs us → best1 mx k i xs = some r →
    (us.foldlM (if mx then Builtin.max2 else Builtin.min2) (.int k i)).run P W = .ok r W ∧ scalarV r = true := by
  intro xs
  induction xs with
  | nil =>
    intro us i r h hb
    cases us with
    | nil => simp [best1] at hb; subst hb; simp [scalarV]
    | cons _ _ => exact h.elim
  | cons x t ih =>
    intro us i r h hb
    unfold best1 at hb
    split at hb
    · simp at *
    · rename_i k' b t' he
      obtain ⟨rfl, rfl⟩ := List.cons.inj he
      cases us with
      | nil => exact h.elim
      | cons u us =>
        obtain ⟨⟨rfl, _⟩, h2⟩ := h
        have := ih us _ r h2 hb
        cases mx <;> simpa [List.foldlM_cons, Builtin.max2, Builtin.min2] using this
    · simp at hb
theorem best_run (mx : Bool) {xs : List (Option TV)} {us : List Value} {r : Value} (h : RepL P S μ so W xs us) (hb : best mx xs = some r) :
    ∃ x rest, us = x :: rest ∧ (rest.foldlM (if mx then Builtin.max2 else Builtin.min2) x).run P W = .ok r W ∧ scalarV r = true := by
  unfold best at hb
  split at hb
  · rename_i k i t
    cases us with
    | nil => exact h.elim
    | cons u us =>
      obtain ⟨⟨rfl, _⟩, h2⟩ := h
      exact ⟨_, us, rfl, best1_run mx k t us i r h2 hb⟩
  · simp at hb
theorem valO_some {v : Option Value} {r : TV} (h : valO v = some r) : ∃ x, v = some x ∧ r = .val x := by
  cases v with
  | none => simp [valO] at h
  | some x => exact ⟨x, rfl, (Option.some.inj h).symm⟩
theorem blt_run {b : Builtin} {tys : Array TypeId} {ty : TypeId} {consts : Array Bool} {xs : List (Option TV)} {us : Array Value} {r : TV} (h : RepL P S μ so W xs us.toList) (hb : bltTV P b tys.toList xs = some r) :
    ∃ z, (builtin b tys ty consts us).run P W = .ok (.value z) W ∧ Rep3 P S μ so W r z := by
  unfold bltTV at hb
  split at hb
  · split at hb
    · rename_i t v htys
      unfold i64O at hb
      split at hb
      · rename_i n hn
        obtain rfl := Option.some.inj hb
        obtain ⟨l, rfl⟩ : ∃ l, us = List.toArray l := ⟨us.toList, by simp⟩
        obtain ⟨l', rfl⟩ : ∃ l, tys = List.toArray l := ⟨tys.toList, by simp⟩
        simp only at htys h
        subst htys
        match l, h with
        | [u], h => exact ⟨.int .i64 n, by simp [builtin, len_run h.1 hn], rfl, rfl⟩
        | [], h => exact h.elim
        | _ :: _ :: _, h => exact h.2.elim
      · simp at hb
    · simp at hb
  · obtain ⟨x, hx, rfl⟩ := valO_some hb
    obtain ⟨u, rest, he, hr, hs⟩ := best_run (P := P) true h hx
    exact ⟨x, by simp [builtin, Builtin.max_, he]; simp at hr; simp [hr], rfl, hs⟩
  · obtain ⟨x, hx, rfl⟩ := valO_some hb
    obtain ⟨u, rest, he, hr, hs⟩ := best_run (P := P) false h hx
    exact ⟨x, by simp [builtin, Builtin.min_, he]; simp at hr; simp [hr], rfl, hs⟩
  · simp at hb
end
end Go.Proofs.YtlhjljplfmmoaaaGreatDoor.Ev
/- Soundness of the evaluator, part 9: structs and rows that are built. -/
namespace Go.Proofs.YtlhjljplfmmoaaaGreatDoor.Ev
open Go Go.RowKit
section
variable {P : Program} {S0 H : Nat → Prop} {n0 : Nat} {w0 : World} {st : St} {a : Act} {W : World} {A : List (Array Value)} {μ : Mu} {S : Nat → Prop} {so : Store}
theorem one_cell {v : TV} {u : Value} (h : Rep1 P S μ so W v u) (ho : one v = true) : u.oneCell' = true ∧ u.cells = #[u] := by
  cases v with
  | undef => simp [one] at ho
  | skip => simp [one] at ho
  | agg _ => simp [one] at ho
  | tup _ => simp [one] at ho
  | val w =>
    obtain ⟨rfl, hs⟩ := h
    cases u <;> simp_all [scalarV, Value.oneCell', Value.cells]
  | nil =>
    obtain rfl : u = .slice none 0 0 := h
    exact ⟨rfl, rfl⟩
  | sl xs => cases h with | sl _ b c s f h1 h2 h3 h4 h5 h6 => exact ⟨rfl, rfl⟩
  | fn f xs => cases h; exact ⟨rfl, rfl⟩
  | row k off len =>
    obtain ⟨e, xs, s, h1, h2, h3, ⟨h4, rfl, rfl⟩ | ⟨b, cap, ad, c, h4, rfl, _⟩⟩ := h <;> exact ⟨rfl, rfl⟩
  | ptr k i off =>
    obtain ⟨b, cap, h1, ⟨cs, h2, h3, rfl⟩ | ⟨e, xs, s, h2, h3, rfl⟩⟩ := h <;> exact ⟨rfl, rfl⟩
  | rd cs =>
    obtain ⟨ad, rfl, _⟩ := h
    exact ⟨rfl, rfl⟩
theorem oneAll_get {l : List TV} (h : oneAll l = true) : ∀ (j : Nat) (c : TV), l[j]? = some c → one c = true := by
  induction l with
  | nil => intro j c hj; simp at hj
  | cons v t ih =>
    simp only [oneAll, Bool.and_eq_true] at h
    intro j c hj
    cases j with
    | zero => obtain rfl : v = c := by simpa using hj
              exact h.1
    | succ j => exact ih h.2 j c (by simpa using hj)
/-- Cells side by side. -/
def RepC (P : Program) (S : Nat → Prop) (μ : Mu) (so : Store) (W : World) (cs : List TV) (arr : Array Value) : Prop :=
  arr.size = cs.length ∧ ∀ (j : Nat) (c : TV), cs[j]? = some c → ∃ u, arr[j]? = some u ∧ Rep1 P S μ so W c u
theorem cells_rep {v : TV} {u : Value} (h : Rep3 P S μ so W v u) (ho : oneAll v.cells = true) :
    u.cells.size = v.cells.length ∧ ∀ (j : Nat) (c : TV), v.cells[j]? = some c → ∃ z, u.cells[j]? = some z ∧ Rep1 P S μ so W c z ∧ z.oneCell' = true := by
  have single : ∀ {v : TV}, Rep1 P S μ so W v u → one v = true → v.cells = [v] → u.cells.size = v.cells.length ∧ ∀ (j : Nat) (c : TV), v.cells[j]? = some c → ∃ z, u.cells[j]? = some z ∧ Rep1 P S μ so W c z ∧ z.oneCell' = true := by
    intro v h ho hc
    obtain ⟨h1, h2⟩ := one_cell h ho
    rw [hc, h2]
    refine ⟨rfl, fun j c hj => ?_⟩
    cases j with
    | zero => obtain rfl : v = c := by simpa using hj
              exact ⟨u, rfl, h, h1⟩
    | succ j => simp at hj
  cases v with
  | agg cs =>
    obtain ⟨arr, rfl, hl, hc⟩ := h
    refine ⟨hl, fun j c hj => ?_⟩
    obtain ⟨z, hz, hr⟩ := hc j c hj
    exact ⟨z, hz, hr, (one_cell hr (oneAll_get ho j c hj)).1⟩
  | tup ts => simp [TV.cells, oneAll, one] at ho
  | undef => simp [TV.cells, oneAll, one] at ho
  | skip => simp [TV.cells, oneAll, one] at ho
  | val w => exact single (v := .val w) h rfl rfl
  | nil => exact single (v := .nil) h rfl rfl
  | sl xs => exact single (v := .sl xs) h rfl rfl
  | fn f xs => exact single (v := .fn f xs) h rfl rfl
  | row k off len => exact single (v := .row k off len) h rfl rfl
  | ptr k i off => exact single (v := .ptr k i off) h rfl rfl
  | rd cs => exact single (v := .rd cs) h rfl rfl
theorem getElem?_putCells (vs : List TV) : ∀ (cs : List TV) (off i : Nat), (putCells cs off vs)[i]? = if off ≤ i ∧ i < off + vs.length ∧ i < cs.length then vs[i - off]? else cs[i]? := by
  induction vs with
  | nil => intro cs off i; rw [if_neg (by simp; omega)]; rfl
  | cons v vs ih =>
    intro cs off i
    simp only [putCells, ih, List.length_set, List.length_cons]
    by_cases h1 : i = off
    · subst h1
      by_cases h2 : i < cs.length
      · rw [if_neg (by omega), if_pos (by omega)]
        simp [h2]
      · rw [if_neg (by omega), if_neg (by omega), List.getElem?_eq_none (by simp; omega), List.getElem?_eq_none (by omega)]
    · rw [List.getElem?_set_ne (Ne.symm h1)]
      by_cases h2 : off + 1 ≤ i ∧ i < off + 1 + vs.length ∧ i < cs.length
      · rw [if_pos h2, if_pos (by omega)]
        obtain ⟨d, rfl⟩ : ∃ d, i = off + 1 + d := ⟨i - (off + 1), by omega⟩
        rw [show off + 1 + d - off = d + 1 by omega, show off + 1 + d - (off + 1) = d by omega]
        rfl
      · rw [if_neg h2, if_neg (by omega)]
theorem length_putCells (vs : List TV) : ∀ (cs : List TV) (off : Nat), (putCells cs off vs).length = cs.length := by
  induction vs with
  | nil => intro cs off; rfl
  | cons v vs ih => intro cs off; simp [putCells, ih]
/-- Cells put into an array, from a place on. -/
def puts : Array Value → Nat → List Value → Array Value
  | cs, _, [] => cs
  | cs, i, v :: vs => puts (cs.setIfInBounds i v) (i + 1) vs
theorem size_puts (vs : List Value) : ∀ (cs : Array Value) (off : Nat), (puts cs off vs).size = cs.size := by
  induction vs with
  | nil => intro cs off; rfl
  | cons v vs ih => intro cs off; simp [puts, ih]
theorem getElem?_puts (vs : List Value) : ∀ (cs : Array Value) (off i : Nat), (puts cs off vs)[i]? = if off ≤ i ∧ i < off + vs.length ∧ i < cs.size then vs[i - off]? else cs[i]? := by
  induction vs with
  | nil => intro cs off i; rw [if_neg (by simp; omega)]; rfl
  | cons v vs ih =>
    intro cs off i
    simp only [puts, ih, Array.size_setIfInBounds, List.length_cons]
    by_cases h1 : i = off
    · subst h1
      by_cases h2 : i < cs.size
      · rw [if_neg (by omega), if_pos (by omega)]
        simp [h2]
      · rw [if_neg (by omega), if_neg (by omega), Array.getElem?_eq_none (by simp; omega), Array.getElem?_eq_none (by omega)]
    · rw [Array.getElem?_setIfInBounds_ne (Ne.symm h1)]
      by_cases h2 : off + 1 ≤ i ∧ i < off + 1 + vs.length ∧ i < cs.size
      · rw [if_pos h2, if_pos (by omega)]
        obtain ⟨d, rfl⟩ : ∃ d, i = off + 1 + d := ⟨i - (off + 1), by omega⟩
        rw [show off + 1 + d - off = d + 1 by omega, show off + 1 + d - (off + 1) = d by omega]
        rfl
      · rw [if_neg h2, if_neg (by omega)]
theorem zipIdx_puts (off : Nat) : ∀ (l : List Value) (k : Nat) (cs : Array Value), (l.zipIdx k).foldl (fun cs (p : Value × Nat) => cs.setIfInBounds (off + p.2) p.1) cs = puts cs (off + k) l := by
  intro l
  induction l with
  | nil => intro k cs; rfl
  | cons v l ih =>
    intro k cs
    rw [List.zipIdx_cons, List.foldl_cons, ih, puts, Nat.add_assoc]
theorem fill_cons (place : Nat → Option (Nat × Nat)) (cells : Array Value) (i : Nat) (v : Value) (rest : List (Nat × Value)) (off size : Nat) (hp : place i = some (off, size)) (h1 : v.cells.size = size) (h2 : off + size ≤ cells.size) :
    Instr.fill place cells ((i, v) :: rest) = Instr.fill place (puts cells off v.cells.toList) rest := by
  simp only [Instr.fill, hp]
  rw [if_neg (by simp [h1]; omega)]
  congr 1
  have := zipIdx_puts off v.cells.toList 0 cells
  rw [Nat.add_zero] at this
  rw [← this, ← Array.foldl_toList, Array.toList_zipIdx]
/-- Parts side by side. -/
def RepP (P : Program) (S : Nat → Prop) (μ : Mu) (so : Store) (W : World) : List (Nat × Option TV) → List (Nat × Value) → Prop
  | [], [] => True
  | (i, some v) :: t, (j, u) :: us => i = j ∧ Rep3 P S μ so W v u ∧ RepP P S μ so W t us
  | (i, none) :: t, (j, _) :: us => i = j ∧ RepP P S μ so W t us
  | _, _ => False
theorem Rel.parts (h : Rel P S0 n0 w0 H st a W A μ) : ∀ (xs : List (Nat × Operand)), RepP P (free S0 n0 H μ st.so W) μ st.so W (rdParts (rdv st.tm) xs) (xs.map fun (i, x) => (i, a.eval x)) := by
  intro xs
  induction xs with
  | nil => trivial
  | cons x t ih =>
    obtain ⟨i, x⟩ := x
    simp only [rdParts, List.map_cons]
    cases hx : rdv st.tm x with
    | none => exact ⟨rfl, ih⟩
    | some v => exact ⟨rfl, h.eval hx, ih⟩
theorem RepC.put {cs : List TV} {arr : Array Value} (h : RepC P S μ so W cs arr) {v : TV} {u : Value} (hv : Rep3 P S μ so W v u) (ho : oneAll v.cells = true) (off : Nat) :
    RepC P S μ so W (putCells cs off v.cells) (puts arr off u.cells.toList) := by
  obtain ⟨h1, h2⟩ := h
  obtain ⟨h3, h4⟩ := cells_rep hv ho
  refine ⟨by rw [size_puts, length_putCells, h1], fun j c hj => ?_⟩
  rw [getElem?_putCells] at hj
  rw [getElem?_puts, Array.length_toList, h3, h1]
  split at hj
  · rename_i hc
    rw [if_pos hc]
    obtain ⟨z, hz, hr, _⟩ := h4 _ c hj
    exact ⟨z, by simpa using hz, hr⟩
  · rename_i hc
    rw [if_neg hc]
    exact h2 j c hj
theorem fill_run {t : TypeId} {place : Nat → Option (Nat × Nat)} (hp : ∀ i fd n, fieldT P t i = some fd → sizeT P fd.type = some n → place i = some (fd.offset, n)) :
    ∀ (parts : List (Nat × Option TV)) (us : List (Nat × Value)) (cs cs' : List TV) (arr : Array Value), RepC P S μ so W cs arr → RepP P S μ so W parts us → fillTV P t cs parts = some cs' →
      ∃ arr', Instr.fill place arr us = some arr' ∧ RepC P S μ so W cs' arr' := by
  intro parts
  induction parts with
  | nil =>
    intro us cs cs' arr h hps hf
    cases us with
    | nil => simp [fillTV] at hf; subst hf; exact ⟨arr, rfl, h⟩
    | cons _ _ => exact hps.elim
  | cons q parts ih =>
    intro us cs cs' arr h hps hf
    obtain ⟨i, v⟩ := q
    cases v with
    | none => simp [fillTV] at hf
    | some v =>
      cases us with
      | nil => exact hps.elim
      | cons u us =>
        obtain ⟨i', u⟩ := u
        obtain ⟨rfl, hv, hps⟩ := hps
        simp only [fillTV] at hf
        split at hf
        · rename_i fd hfd
          split at hf
          · rename_i hc
            obtain ⟨c1, c2, c3⟩ := hc
            obtain ⟨h3, _⟩ := cells_rep hv c1
            rw [fill_cons place arr i u us fd.offset v.cells.length (hp i fd _ hfd c2) h3 (by rw [h.1]; exact c3)]
            exact ih us _ cs' _ (h.put hv c1 fd.offset) hps hf
          · simp at hf
        · simp at hf
theorem mapM_places : ∀ (fs : List Field), (∀ f, f ∈ fs → (sizeT P f.type).isSome = true) → ∃ places, fs.mapM (fun f => (P.info? f.type).map fun i => (f.offset, i.size)) = some places ∧
    ∀ (i : Nat) (fd : Field) (n : Nat), fs[i]? = some fd → sizeT P fd.type = some n → places[i]? = some (fd.offset, n) := by
  intro fs
  induction fs with
  | nil => intro _; exact ⟨[], by simp, fun i fd n hi => by simp at hi⟩
  | cons f fs ih =>
    intro h
    obtain ⟨places, h1, h2⟩ := ih fun g hg => h g (List.mem_cons_of_mem _ hg)
    obtain ⟨m, hm⟩ := Option.isSome_iff_exists.1 (h f List.mem_cons_self)
    unfold sizeT at hm
    obtain ⟨ti, hti, rfl⟩ := Option.map_eq_some_iff.1 hm
    refine ⟨(f.offset, ti.size) :: places, by simp [List.mapM_cons, hti, h1], fun i fd n hi hn => ?_⟩
    cases i with
    | zero =>
      obtain rfl : f = fd := by simpa using hi
      simp [sizeT, hti] at hn
      simp [hn]
    | succ i => simpa using h2 i fd n (by simpa using hi) hn
theorem build_run {t : TypeId} {parts : List (Nat × Option TV)} {us : Array (Nat × Value)} {r : TV} (hps : RepP P S μ so W parts us.toList) (hb : buildTV P t parts = some r) :
    ∃ z, (Instr.build t us).run P W = .ok z W ∧ Rep3 P S μ so W r z := by
  unfold buildTV at hb
  split at hb
  · rename_i z hz
    unfold aggT at hb
    split at hb
    · rename_i cs' hcs
      obtain rfl := Option.some.inj hb
      unfold structZ at hz
      split at hz
      · rename_i fs z' ht hzt
        split at hz
        · rename_i hall
          obtain rfl := Option.some.inj hz
          obtain ⟨uz, _, hof, it, hit, hitz⟩ := run_zeroValue (P := P) (W := W) hzt
          obtain ⟨places, hp1, hp2⟩ := mapM_places (P := P) fs.toList (fun f hf => List.all_eq_true.1 hall f hf)
          obtain ⟨arr, rfl, hl, hc⟩ := ofVal_rep (P := P) (S := S) (μ := μ) (so := so) (W := W) hof
          obtain ⟨arr', ha, hR⟩ := fill_run (P := P) (S := S) (μ := μ) (so := so) (W := W) (t := t) (place := (places.toArray[·]?)) (fun i fd n hi hn => by
            obtain ⟨fs', g1, g2⟩ := fieldT_some hi
            rw [ht] at g1
            obtain rfl : fs = fs' := by simpa using g1
            simpa using hp2 i fd n (by simpa using g2) hn) parts us.toList _ cs' arr ⟨hl, hc⟩ hps hcs
          refine ⟨.agg arr', run_build W t us arr' ?_, arr', rfl, hR.1, hR.2⟩
          have h0 : (Value.agg arr).cells = arr := rfl
          simp only [Program.built, hit, ht, hitz, hp1, h0]
          exact ha
        · simp at hz
      · simp at hz
    · simp at hb
  · simp at hb
end
end Go.Proofs.YtlhjljplfmmoaaaGreatDoor.Ev
