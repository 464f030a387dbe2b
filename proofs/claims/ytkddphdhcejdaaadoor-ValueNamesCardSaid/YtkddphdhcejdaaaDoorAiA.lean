/-
  An abstract interpreter of the model's programs, in which a slice is the list that it reads as: its values, its state, its steps.
-/
import Derived.RangeFuncLeaves
import Derived.RangeFuncCalls
import Derived.Laws.Entries
import Derived.KernelRfl
set_option linter.unusedVariables false
namespace Go.Proofs.YtkddphdhcejdaaaDoor.AI

/-- What a value of Go's is to the interpreter. -/
inductive AV where
  | int (k : IntKind) (n : Int)
  | bool (b : Bool)
  | str (s : ByteArray)
  /-- the nil slice -/
  | nils
  /-- a slice of data that nobody writes: what it reads as -/
  | list (xs : List AV)
  /-- the same, with the right to append behind the tail of token t -/
  | own (t : Nat) (xs : List AV)
  /-- a slice that was written out, of whatever values -/
  | lits (xs : List AV)
  | agg (cs : List AV)
  | tup (vs : List AV)
  | nilp
  /-- a pointer to a cell of a variable of the call's own -/
  | box (b off : Nat)
  /-- a pointer to memory that nobody writes: its cells from there on -/
  | elem (cs : List AV)
  | fn (f : FuncId) (cap : List AV)
  | yield (l : Nat)
  /-- a string that is ranged over -/
  | iter (l : Nat)
  /-- the address of the first element of what token t has -/
  | raw (t : Nat) (xs : List AV)
  /-- some address -/
  | rawz
  | nilf
  | nili
  /-- some interface value that is not nil -/
  | errv
  | undef
  /-- what stands in the slot of an operation that was not wanted -/
  | no
  deriving Inhabited

def AV.cells : AV → List AV
  | .agg cs => cs
  | v => [v]

/-- One cell's value. -/
def AV.one : AV → Bool
  | .agg _ | .tup _ | .undef | .no => false
  | _ => true

mutual
/-- Plain data: no pointer to a variable, no function, no right to append. -/
def AV.isData : AV → Bool
  | .int .. | .bool _ | .str _ | .list _ | .nilp | .nilf | .nili => true
  | .agg cs => AV.allCells cs
  | _ => false
def AV.allCells : List AV → Bool
  | [] => true
  | x :: xs => x.one && x.isData && AV.allCells xs
end

mutual
/-- The same as data: rights to append are dropped. -/
def AV.toData : AV → Option AV
  | .int k n => some (.int k n)
  | .bool b => some (.bool b)
  | .str s => some (.str s)
  | .nils => some (.list [])
  | .list xs => some (.list xs)
  | .own _ xs => some (.list xs)
  | .nilp => some .nilp
  | .nilf => some .nilf
  | .nili => some .nili
  | .agg cs => (AV.toCells cs).map .agg
  | _ => none
def AV.toCells : List AV → Option (List AV)
  | [] => some []
  | x :: xs => match x.one, x.toData, AV.toCells xs with
    | true, some y, some ys => some (y :: ys)
    | _, _, _ => none
end
def AV.toDatas : List AV → Option (List AV)
  | [] => some []
  | x :: xs => match x.toData, AV.toDatas xs with
    | some y, some ys => some (y :: ys)
    | _, _ => none

mutual
/-- No pointer to a variable from n on, no token from t on, no loop from l on. -/
def AV.under (n t l : Nat) : AV → Bool
  | .box b _ => decide (b < n)
  | .own k _ => decide (k < t)
  | .yield k => decide (k < l)
  | .iter k => decide (k < l)
  | .raw k _ => decide (k < t)
  | .lits xs => AV.allUnder n t l xs
  | .agg cs => AV.allUnder n t l cs
  | .tup vs => AV.allUnder n t l vs
  | .elem cs => AV.allUnder n t l cs
  | .fn _ cap => AV.allUnder n t l cap
  | _ => true
def AV.allUnder (n t l : Nat) : List AV → Bool
  | [] => true
  | x :: xs => x.under n t l && AV.allUnder n t l xs
end

mutual
/-- A value that is written in the program's text. -/
def ofVal : Value → AV
  | .int k n => .int k n
  | .bool b => .bool b
  | .string s => .str s
  | .pointer none => .nilp
  | .slice none 0 0 => .nils
  | .nilFunc => .nilf
  | .nilIface => .nili
  | .agg ⟨cs⟩ => .agg (ofVals cs)
  | _ => .undef
def ofVals : List Value → List AV
  | [] => []
  | x :: xs => ofVal x :: ofVals xs
end

/-- A loop over a function that is under way; or a string that is ranged over: the string, the place. -/
structure LR where
  env : List AV
  params : List Nat
  km : List (Nat × List Nat)
  assign : Code
  body : Code
  state : LoopState
  pending : Option Code
  it : Option (ByteArray × Nat) := none
  deriving Inhabited

/-- The memory of the calls under way: variables, tokens' tails, loops over functions; below lb, lt, ll none of them is turned. -/
structure Hp where
  boxes : List (List AV × TypeId)
  toks : List (Nat × Option TypeId)
  loops : List LR
  lb : Nat
  lt : Nat
  ll : Nat
  deriving Inhabited

/-- Exits that the interpreter follows. -/
inductive AX where
  | normal
  | exit (id : Nat)
  | ret
  deriving DecidableEq, Inhabited

/-- What is told of the program: functions that are answered by what is proved of them; which slots a loop's head keeps; what read-only package-level variables hold. -/
structure Cfg where
  P : Program
  prim : FuncId → Option (List AV → Hp → Option (AV × Hp))
  km : FuncId → List (Nat × List Nat)
  gl : Nat → Option (List AV)
  /-- functions that append to what they are handed -/
  kt : FuncId → Bool := fun _ => false

/-- The steps that want fuel. -/
structure Rec where
  call : FuncId → List AV → Hp → Option (AV × Hp)
  loop : List (Nat × List Nat) → List Nat → Nat → Nat → Nat → Code → List AV → Hp → Option (AX × List AV × Hp)
  round : Nat → List AV → Hp → Option (AV × Hp)

section
variable (C : Cfg)

def ev (env : List AV) : Operand → AV
  | .tmp t => env.getD t .undef
  | .const v => ofVal v
  | .global g => match C.gl g with | some cs => .elem cs | none => .undef
  | .func f => .fn f []

def sz (t : TypeId) : Option Nat := (C.P.info? t).map (·.size)
def bytesOf (t : TypeId) : Option Nat := (C.P.info? t).map (·.bytes)
def aggT (t : TypeId) : Bool := match C.P.underlying t with | some (.struct _) | some (.array _ _) => true | _ => false
def zeroCells (t : TypeId) : Option (List AV) := ((C.P.info? t).bind (·.zero)).map fun v => (ofVal v).cells

/-- New tokens for nil slices that come to stand in a slot or a variable. -/
def settle1 (v : AV) (hp : Hp) : AV × Hp :=
  match v with
  | .nils => (.own hp.toks.length [], { hp with toks := hp.toks ++ [(0, none)] })
  | v => (v, hp)
def settles : List AV → Hp → List AV × Hp
  | [], hp => ([], hp)
  | x :: xs, hp => let (y, hp) := settle1 x hp; let (ys, hp) := settles xs hp; (y :: ys, hp)
def settle (v : AV) (hp : Hp) : AV × Hp :=
  match v with
  | .agg cs => let (ys, hp) := settles cs hp; (.agg ys, hp)
  | v => settle1 v hp

/-- What is read of n cells at a type. -/
def shapeOf (t : TypeId) (cs : List AV) : Option AV :=
  match sz C t, C.P.underlying t with
  | some n, some _ => if n ≤ cs.length then
      if aggT C t then some (.agg (cs.take n)) else
        match n, cs with
        | 1, x :: _ => some x
        | _, _ => none
    else none
  | _, _ => none

def loadA (t : TypeId) (p : AV) (hp : Hp) : Option AV :=
  match p with
  | .box b off => (hp.boxes[b]?).bind fun cs => shapeOf C t (cs.1.drop off)
  | .elem cs => shapeOf C t cs
  | _ => none

/-- cs with xs written from place i on. -/
def writeAt (cs : List AV) (i : Nat) : List AV → List AV
  | [] => cs
  | x :: xs => writeAt (cs.set i x) (i + 1) xs

def storeA (t : TypeId) (p v : AV) (hp : Hp) : Option Hp :=
  match p, sz C t, hp.boxes[match p with | .box b _ => b | _ => 0]? with
  | .box b off, some n, some (cs, bt) =>
    let (v, hp) := settle v hp
    if v.cells.length = n ∧ off + n ≤ cs.length ∧ v.cells.all (·.one) ∧ hp.lb ≤ b then some { hp with boxes := hp.boxes.set b (writeAt cs off v.cells, bt) } else none
  | _, _, _ => none

def newBox (t : TypeId) (cs : List AV) (hp : Hp) : Option (AV × Hp) :=
  if cs.all (·.one) then
    let (cs, hp) := settles cs hp
    some (.box hp.boxes.length 0, { hp with boxes := hp.boxes ++ [(cs, t)] })
  else none

def fillA (place : Nat → Option (Nat × Nat)) (cells : List AV) : List (Nat × AV) → Option (List AV)
  | [] => some cells
  | (i, v) :: rest =>
    match place i with
    | none => none
    | some (off, size) => if v.cells.length = size ∧ off + size ≤ cells.length ∧ v.cells.all (·.one) then fillA place (writeAt cells off v.cells) rest else none

def buildA (t : TypeId) (parts : List (Nat × AV)) : Option AV :=
  match C.P.underlying t, zeroCells C t with
  | some (.struct fields), some zero =>
    match fields.toList.mapM (fun f => (C.P.info? f.type).map fun i => (f.offset, i.size)) with
    | some places => (fillA (places.toArray[·]?) zero parts).map .agg
    | none => none
  | some (.array _ elem), some zero =>
    match sz C elem with
    | some s => (fillA (fun i => some (i * s, s)) zero parts).map .agg
    | none => none
  | _, _ => none

/-- cells, n at a time. -/
def chop (n : Nat) : Nat → List AV → List (List AV)
  | 0, _ => []
  | k + 1, cs => cs.take n :: chop n k (cs.drop n)

def asElem (agg : Bool) (cs : List AV) : Option AV :=
  if agg then some (.agg cs) else match cs with | [x] => some x | _ => none

/-- A new row of elements: with the right to append, where they are data. -/
def newRowA (elem : TypeId) (xs : List AV) (hp : Hp) : AV × Hp :=
  match AV.toDatas xs with
  | some ys => (.own hp.toks.length ys, { hp with toks := hp.toks ++ [(ys.length, some elem)] })
  | none => (.lits xs, hp)

def buildSliceA (t : TypeId) (len : Nat) (parts : List (Nat × AV)) (hp : Hp) : Option (AV × Hp) :=
  match C.P.underlying t with
  | some (.slice elem) =>
    match sz C elem, zeroCells C elem with
    | some s, some zero =>
      if zero.length = s ∧ 0 < s ∧ len * s ≤ 16777216 then
        match fillA (fun i => some (i * s, s)) ((List.replicate len zero).flatten) parts with
        | some cells => if cells.all (·.one) then ((chop s len cells).mapM (asElem (aggT C elem))).map fun xs => newRowA elem xs hp else none
        | none => none
      else none
    | _, _ => none
  | _ => none

def fieldAddrA (s : TypeId) (p : AV) (i : Nat) : Option AV :=
  match C.P.underlying s with
  | some (.struct fields) =>
    match fields[i]? with
    | some f =>
      match sz C f.type with
      | some (_ + 1) => match p with
        | .box b off => some (.box b (off + f.offset))
        | .elem cs => if f.offset ≤ cs.length then some (.elem (cs.drop f.offset)) else none
        | _ => none
      | _ => none
    | none => none
  | _ => none

/-- A slice's elements, where it is one. -/
def AV.elems : AV → Option (List AV)
  | .nils => some []
  | .list xs | .own _ xs | .lits xs => some xs
  | _ => none

def indexAddrA (t : TypeId) (x i : AV) : Option AV :=
  match C.P.underlying t, i with
  | some (.slice elem), .int _ n =>
    match x.elems, sz C elem with
    | some xs, some s =>
      if 0 ≤ n then match xs[n.toNat]? with
        | some y => if y.cells.length = s then some (.elem y.cells) else none
        | none => none
      else none
    | _, _ => none
  | some (.array len elem), .int _ n =>
    match sz C elem with
    | some s => if 0 ≤ n ∧ n < len then
        match x with
        | .box b off => some (.box b (off + n.toNat * s))
        | .elem cs => if n.toNat * s ≤ cs.length then some (.elem (cs.drop (n.toNat * s))) else none
        | _ => none
      else none
    | none => none
  | _, _ => none

def fieldA (t : TypeId) (x : AV) (i : Nat) : Option AV :=
  match C.P.underlying t, x with
  | some (.struct fields), .agg cs =>
    match fields[i]? with
    | some f => shapeOf C f.type (cs.drop f.offset)
    | none => none
  | _, _ => none

def indexA (t : TypeId) (x i : AV) : Option AV :=
  match C.P.underlying t, x, i with
  | some (.array len elem), .agg cs, .int _ n =>
    match sz C elem with
    | some s => if 0 ≤ n ∧ n < len then shapeOf C elem (cs.drop (n.toNat * s)) else none
    | none => none
  | some .string, .str s, .int _ n => if 0 ≤ n then (s[n.toNat]?).map fun b => .int .u8 b.toNat else none
  | _, _, _ => none

/-- Equality of plain cells. -/
def eqD : TypeDesc → AV → AV → Option Bool
  | .int _, .int k a, .int k' b => if k = k' then some (a == b) else none
  | .bool, .bool a, .bool b => some (a == b)
  | .string, .str a, .str b => some (a.data.toList == b.data.toList)
  | _, _, _ => none

def eqDs : List TypeDesc → List AV → List AV → Option Bool
  | [], [], [] => some true
  | d :: ds, x :: xs, y :: ys => match eqD d x y, eqDs ds xs ys with
    | some a, some b => some (a && b)
    | _, _ => none
  | _, _, _ => none

/-- Equality with nil, and of bools. -/
def eqA (cst : Bool) : TypeDesc → AV → AV → Option Bool
  | .bool, .bool a, .bool b => some (a == b)
  | .pointer _, .nilp, .nilp => some true
  | .pointer _, .nilp, .box .. | .pointer _, .nilp, .elem _ | .pointer _, .box .., .nilp | .pointer _, .elem _, .nilp => some false
  | .interface _, .nili, .nili => if cst then some true else none
  | .interface _, .nili, .errv | .interface _, .errv, .nili => some false
  | .func .., .nilf, .nilf => some true
  | .func .., .nilf, .fn .. | .func .., .fn .., .nilf => some false
  | _, _, _ => none

/-- A struct of plain cells whose fields have names, one behind the other. -/
def flatFrom : Nat → List Field → Option (List TypeDesc)
  | _, [] => some []
  | i, f :: fs =>
    if f.name ≠ "_" ∧ f.offset = i then
      match C.P.underlying f.type, flatFrom (i + 1) fs with
      | some .bool, some l => some (.bool :: l)
      | some (.int k), some l => some (.int k :: l)
      | some .string, some l => some (.string :: l)
      | _, _ => none
    else none

def flatT (t : TypeId) : Option (List TypeDesc) :=
  match C.P.underlying t with
  | some (.struct fields) => if C.P.stoodInHeld t = false ∧ C.P.eqGuardType C.P.depth t = false then flatFrom C 0 fields.toList else none
  | _ => none

def intA (op : BinOp) (k : IntKind) (a b : Int) : Option AV :=
  match op with
  | .add => some (.int k (k.wrap (a + b)))
  | .sub => some (.int k (k.wrap (a - b)))
  | .mul => some (.int k (k.wrap (a * b)))
  | .quo => if b = 0 then none else some (.int k (k.wrap (a.tdiv b)))
  | .rem => if b = 0 then none else some (.int k (a.tmod b))
  | .and => some (.int k (k.wrap (BitVec.ofInt k.bits a &&& BitVec.ofInt k.bits b).toNat))
  | .or => some (.int k (k.wrap (BitVec.ofInt k.bits a ||| BitVec.ofInt k.bits b).toNat))
  | .xor => some (.int k (k.wrap (BitVec.ofInt k.bits a ^^^ BitVec.ofInt k.bits b).toNat))
  | .andNot => some (.int k (k.wrap (BitVec.ofInt k.bits a &&& ~~~(BitVec.ofInt k.bits b)).toNat))
  | .eql => some (.bool (a == b))
  | .neq => some (.bool (a != b))
  | .lss => some (.bool (a < b))
  | .leq => some (.bool (a ≤ b))
  | .gtr => some (.bool (a > b))
  | .geq => some (.bool (a ≥ b))
  | _ => none

def binA (op : BinOp) (t : TypeId) (cst : Bool) (x y : AV) : Option AV :=
  match x, y with
  | .int k a, .int k' b =>
    match op with
    | .shl => if 0 ≤ b then some (.int k (k.wrap (a * 2 ^ (min b.toNat k.bits)))) else none
    | .shr => if 0 ≤ b then some (.int k (a.fdiv (2 ^ (min b.toNat k.bits)))) else none
    | op => if k = k' then intA op k a b else none
  | .str a, .str b =>
    match op with
    | .add => if ((a.size + b.size : Nat) : Int) > 9223372036854775807 then none else some (.str (a ++ b))
    | .eql => some (.bool (a.data.toList == b.data.toList))
    | .neq => some (.bool !(a.data.toList == b.data.toList))
    | _ => none
  | .agg xs, .agg ys =>
    match flatT C t, op with
    | some ds, .eql => (eqDs ds xs ys).map .bool
    | some ds, .neq => (eqDs ds xs ys).map fun b => .bool !b
    | _, _ => none
  | x, y =>
    match C.P.underlying t, op with
    | some d, .eql => (eqA cst d x y).map .bool
    | some d, .neq => (eqA cst d x y).map fun b => .bool !b
    | _, _ => none

def isCst : Operand → Bool
  | .const _ => true
  | _ => false

def unA (op : UnOp) (x : AV) : Option AV :=
  match op, x with
  | .neg, .int k n => some (.int k (k.wrap (0 - n)))
  | .not, .bool b => some (.bool !b)
  | _, _ => none

def convA (src dst : TypeId) (x : AV) : Option AV :=
  match C.P.underlying src, C.P.underlying dst, x with
  | some _, some (.int k), .int _ n => some (.int k (k.wrap n))
  | some _, some .string, .str s => some (.str s)
  | some (.int _), some .string, .int _ n => some (.str (Utf8.encode n))
  | _, _, _ => none

def intOr (d : Nat) : Option AV → Option Nat
  | none => some d
  | some (.int _ n) => if 0 ≤ n then some n.toNat else none
  | _ => none

def sliceA (t : TypeId) (x : AV) (lo hi mx : Option AV) : Option AV :=
  match C.P.underlying t, x, mx with
  | some .string, .str s, none =>
    match intOr 0 lo, intOr s.size hi with
    | some l, some h => if l ≤ h ∧ h ≤ s.size then some (.str (s.extract l h)) else none
    | _, _ => none
  | some (.slice elem), x, none =>
    match x.elems, sz C elem with
    | some xs, some s =>
      match intOr 0 lo, intOr xs.length hi with
      | some l, some h =>
        if l ≤ h ∧ h ≤ xs.length ∧ xs.all (fun y => y.cells.length = s) then
          match x with
          | .lits xs => some (.lits ((xs.take h).drop l))
          | _ => some (.list ((xs.take h).drop l))
        else none
      | _, _ => none
    | _, _ => none
  | _, _, _ => none

/-- append: elements, of data alone, behind the tail of a token, or of the nil slice. -/
def appendA (argTypes : Array TypeId) (s x : AV) (hp : Hp) : Option (AV × Hp) :=
  match argTypes.toList with
  | [st, xt] =>
    match C.P.underlying st, C.P.underlying xt with
    | some (.slice elem), some d =>
      match sz C elem, bytesOf C elem, zeroCells C elem with
      | some (k + 1), some b, some zero =>
        let src : Option (List AV) := match d, x with
          | .slice _, x => x.elems.bind AV.toDatas
          | .string, .str s => if k = 0 then some (s.data.toList.map fun c => .int .u8 c.toNat) else none
          | _, _ => none
        match src with
        | some ys =>
          if ys.all (fun y => y.cells.length = k + 1) ∧ zero.length = k + 1 then
            match s with
            | .nils => if ys.length * b ≤ 140737488355328 ∧ 0 < b then
                some (if ys.isEmpty then settle .nils hp else (.own hp.toks.length ys, { hp with toks := hp.toks ++ [(ys.length, some elem)] })) else none
            | .own t xs => match hp.toks[t]? with
              | some (n, el) => if hp.lt ≤ t ∧ n = xs.length ∧ (xs.isEmpty = true ∨ el = some elem) ∧ (xs.length + ys.length) * b ≤ 140737488355328 ∧ 0 < b ∧ xs.all (fun y => y.cells.length = k + 1) then
                some (.own t (xs ++ ys), if ys.isEmpty then hp else { hp with toks := hp.toks.set t (xs.length + ys.length, some elem) }) else none
              | none => none
            | _ => none
          else none
        | none => none
      | _, _, _ => none
    | _, _ => none
  | _ => none

def lenA (argTypes : Array TypeId) (x : AV) : Option AV :=
  match (argTypes[0]?).bind C.P.underlying, x with
  | some .string, .str s => some (.int .i64 s.size)
  | some (.array n _), _ => some (.int .i64 n)
  | some (.slice _), x => x.elems.map fun xs => .int .i64 xs.length
  | _, _ => none

/-- A string is ranged over. -/
def rangeStrA (t : TypeId) (x : AV) (hp : Hp) : Option (AV × Hp) :=
  match C.P.underlying t, x with
  | some .string, .str s => some (.iter hp.loops.length, { hp with loops := hp.loops ++ [{ env := [], params := [], km := [], assign := .skip, body := .skip, state := .ready, pending := none, it := some (s, 0) }] })
  | _, _ => none

def nextA (x : AV) (hp : Hp) : Option (AV × Hp) :=
  match x with
  | .iter l => match hp.loops[l]? with
    | some r => match r.it with
      | some (s, pos) =>
        if pos < s.size then
          some (.tup [.bool true, .int .i64 pos, .int .i32 (Utf8.decode s pos).1], { hp with loops := hp.loops.set l { r with it := some (s, pos + (Utf8.decode s pos).2) } })
        else some (.tup [.bool false], hp)
      | none => none
    | none => none
  | _ => none

/-- The address of a slice's first element, to be read as a string. -/
def rawA (x : AV) (hp : Hp) : Option AV :=
  match x with
  | .nils => some .rawz
  | .own t [] => match hp.toks[t]? with
    | some (0, none) => some .rawz
    | _ => none
  | .own t (y :: ys) => some (.raw t (y :: ys))
  | _ => none

def byteOf : AV → Option UInt8
  | .int .u8 n => if 0 ≤ n ∧ n < 256 then some n.toNat.toUInt8 else none
  | _ => none

/-- A string over a token's elements. -/
def rawStrA (pt : TypeId) (x n : AV) (hp : Hp) : Option AV :=
  match x, n with
  | .rawz, .int .i64 0 => some (.str ⟨#[]⟩)
  | .raw t xs, .int .i64 n =>
    match C.P.underlying pt, hp.toks[t]? with
    | some (.pointer el), some (m, some el') => if el = el' ∧ m = xs.length ∧ n = xs.length ∧ n ≤ 140737488355328 ∧ C.P.cellsOf el = 1 then (xs.mapM byteOf).map fun bs => .str ⟨bs.toArray⟩ else none
    | _, _ => none
  | _, _ => none

/-- A new slice of zeros. -/
def makeSliceA (t : TypeId) (len cap : AV) (hp : Hp) : Option (AV × Hp) :=
  match C.P.underlying t, len, cap with
  | some (.slice elem), .int _ n, .int _ m =>
    match bytesOf C elem with
    | some b => if n = m ∧ 0 < n ∧ n ≤ 65536 ∧ b ≤ 65536 then buildSliceA C t n.toNat [] hp else none
    | none => none
  | _, _, _ => none

/-- A function value is called. -/
def callA (rec : Rec) (f : AV) (args : List AV) (hp : Hp) : Option (AV × Hp) :=
  match f with
  | .fn g cap => rec.call g (args ++ cap) hp
  | .yield l => rec.round l args hp
  | _ => none

/-- One operation: what it gives. -/
def opA (rec : Rec) (env : List AV) (o : Oper) (hp : Hp) : Option (AV × Hp) :=
  let r := ev C env
  match o.op with
  | .move x | .assign x => some (settle (r x) hp)
  | .pick c a b => match r c with | .bool t => some (if t then r a else r b, hp) | _ => none
  | .alloc t => (zeroCells C t).bind fun cs => newBox t cs hp
  | .box t x => if sz C t = some (r x).cells.length then newBox t (r x).cells hp else none
  | .build t ps => (buildA C t (ps.toList.map fun (i, x) => (i, r x))).map (·, hp)
  | .buildSlice t n ps => buildSliceA C t n (ps.toList.map fun (i, x) => (i, r x)) hp
  | .load t a => (loadA C t (r a) hp).map (·, hp)
  | .store t a v => (storeA C t (r a) (r v) hp).map (AV.undef, ·)
  | .nilCheck x => match r x with | .box b i => some (.box b i, hp) | .elem cs => some (.elem cs, hp) | .fn f cap => some (.fn f cap, hp) | .yield l => some (.yield l, hp) | .errv => some (.errv, hp) | _ => none
  | .binOp op t x y _ => (binA C op t (isCst x || isCst y) (r x) (r y)).map (·, hp)
  | .unOp op _ x => (unA op (r x)).map (·, hp)
  | .convert s d x => (convA C s d (r x)).map (·, hp)
  | .makeFunc (.func f) first cap => if first.isEmpty then some (.fn f (cap.toList.map r), hp) else none
  | .slice t x lo hi mx => (sliceA C t (r x) (lo.map r) (hi.map r) (mx.map r)).map (·, hp)
  | .fieldAddr s x i => (fieldAddrA C s (r x) i).map (·, hp)
  | .field t x i => (fieldA C t (r x) i).map (·, hp)
  | .indexAddr t x i => (indexAddrA C t (r x) (r i)).map (·, hp)
  | .index t x i => (indexA C t (r x) (r i)).map (·, hp)
  | .extract x i => match r x with | .tup vs => (vs[i]?).map (·, hp) | _ => none
  | .range t x => rangeStrA C t (r x) hp
  | .next x true => nextA (r x) hp
  | .makeSlice t n m => makeSliceA C t (r n) (r m) hp
  | .call { callee := .builtin .unsafeSliceData, args, .. } => match args.toList with | [x] => (rawA (r x) hp).map (·, hp) | _ => none
  | .call { callee := .builtin .unsafeString, args, argTypes } => match args.toList, argTypes.toList with | [x, n], [pt, _] => (rawStrA C pt (r x) (r n) hp).map (·, hp) | _, _ => none
  | .call { callee := .value f, args, .. } => callA rec (r f) (args.toList.map r) hp
  | .call { callee := .builtin .len, args, argTypes } => match args.toList with | [x] => (lenA C argTypes (r x)).map (·, hp) | _ => none
  | .call { callee := .builtin .append, args, argTypes } => match args.toList with | [s, x] => appendA C argTypes (r s) (r x) hp | _ => none
  | _ => none

def wantA (ops : Array Oper) (env : List AV) (o : Oper) : Option Bool :=
  match o.guard with
  | none => some true
  | some (j, want) =>
    match (ops[j]?).bind (·.dst) with
    | some d => match env[d]? with
      | some (.bool b) => some (b == want)
      | some .undef => none
      | _ => some false
    | none => some false

def putA (env : List AV) (o : Oper) (v : AV) : List AV :=
  match o.dst with
  | some d => env.set d v
  | none => env

/-- A region's operations, one behind the other. -/
def opsA (rec : Rec) (ops : Array Oper) : List Oper → List AV → Hp → Option (List AV × Hp)
  | [], env, hp => some (env, hp)
  | o :: l, env, hp =>
    match wantA ops env o with
    | some true => match opA C rec env o hp with
      | some (v, hp) => opsA rec ops l (putA env o v) hp
      | none => none
    | some false => opsA rec ops l (putA env o .no) hp
    | none => none

end
end Go.Proofs.YtkddphdhcejdaaaDoor.AI
