/-
  The abstract interpreter: regions whose order is open, code, calls, loops, ranges over functions.
-/
import Derived.Test.YtkddphdhcejdaaaDoorAiA
set_option linter.unusedVariables false
namespace Go.Proofs.YtkddphdhcejdaaaDoor.AI
section
variable (C : Cfg)

/-- The slots that an operation looks at. -/
def looks (ops : Array Oper) (o : Oper) : List Nat :=
  (o.op.operands.toList.filterMap fun | .tmp t => some t | _ => none) ++
    (match o.guard with | some (j, _) => ((ops[j]?).bind (·.dst)).toList | none => [])

/-- No nil slice comes to stand in a slot. -/
def noNils : AV → Bool
  | .nils => false
  | .agg cs => cs.all fun | .nils => false | _ => true
  | _ => true

/-- Operations that lay nothing and turn nothing. -/
def still (x : List AV) (o : Oper) : Bool :=
  match o.op with
  | .move y | .assign y => noNils (ev C x y)
  | .pick .. | .build .. | .load .. | .nilCheck _ | .binOp .. | .unOp .. | .convert .. | .makeFunc ..
  | .slice .. | .fieldAddr .. | .field .. | .indexAddr .. | .index .. | .extract .. => true
  | .call { callee := .builtin .len, .. } => true
  | .call { callee := .builtin .unsafeSliceData, .. } => true
  | _ => false

mutual
def AV.beq : AV → AV → Bool
  | .int k n, .int k' n' => k == k' && n == n'
  | .bool a, .bool b => a == b
  | .str s, .str t => s.data.toList == t.data.toList
  | .nils, .nils => true
  | .list xs, .list ys => AV.beqs xs ys
  | .own t xs, .own t' ys => t == t' && AV.beqs xs ys
  | .lits xs, .lits ys => AV.beqs xs ys
  | .agg xs, .agg ys => AV.beqs xs ys
  | .tup xs, .tup ys => AV.beqs xs ys
  | .nilp, .nilp => true
  | .box b i, .box b' i' => b == b' && i == i'
  | .elem xs, .elem ys => AV.beqs xs ys
  | .fn f xs, .fn g ys => f == g && AV.beqs xs ys
  | .yield l, .yield l' => l == l'
  | .iter l, .iter l' => l == l'
  | .raw t xs, .raw t' ys => t == t' && AV.beqs xs ys
  | .rawz, .rawz => true
  | .nilf, .nilf => true
  | .nili, .nili => true
  | .errv, .errv => true
  | .undef, .undef => true
  | .no, .no => true
  | _, _ => false
def AV.beqs : List AV → List AV → Bool
  | [], [] => true
  | x :: xs, y :: ys => AV.beq x y && AV.beqs xs ys
  | _, _ => false
end

/-- An operation as it went: the slots that it looked at, what it gave, whether it was wanted, whether it laid or turned something, how many that did so went ahead of it in the text. -/
structure Ent where
  o : Oper
  x : List AV
  v : AV
  wt : Bool
  imp : Bool
  k : Nat

/-- The slots that are kept at a loop's head. -/
def mask (keep : List Nat) : Nat → List AV → List AV
  | _, [] => []
  | i, x :: xs => (if keep.contains i then x else .undef) :: mask keep (i + 1) xs

/-- The operations in the text's order; the memories behind each that lays or turns something. -/
def passA (rec : Rec) (ops : Array Oper) : List Oper → List AV → List Hp → Nat → Hp → Option (List Ent × List AV × List Hp × Hp)
  | [], env, ms, _, hp => some ([], env, ms, hp)
  | o :: l, env, ms, k, hp =>
    let x := mask (looks ops o) 0 env
    match wantA ops x o with
    | some true => match opA C rec x o hp with
      | some (v, hp1) =>
        if still C x o then (passA rec ops l (putA env o v) ms k hp).map fun r => (⟨o, x, v, true, false, k⟩ :: r.1, r.2)
        else (passA rec ops l (putA env o v) (ms ++ [hp1]) (k + 1) hp1).map fun r => (⟨o, x, v, true, true, k⟩ :: r.1, r.2)
      | none => none
    | some false => (passA rec ops l (putA env o .no) ms k hp).map fun r => (⟨o, x, .no, false, false, k⟩ :: r.1, r.2)
    | none => none

/-- Who comes ahead of whom, as bits. -/
def predsOf (acc : List Nat) (o : Oper) : Nat := o.after.toList.foldl (fun s e => if Region.binds .any e then s ||| 2 ^ e.on ||| acc.getD e.on 0 else s) 0
def bitsL : List Oper → List Nat → List Nat
  | [], acc => acc
  | o :: l, acc => bitsL l (acc ++ [predsOf acc o])
def bit (b : List Nat) (i j : Nat) : Bool := (b.getD i 0).testBit j

/-- What keeps a region's result the same in whatever order. -/
def orderOk (ops : Array Oper) (b : List Nat) : Bool :=
  let l := ops.toList.zipIdx
  l.all fun (o, i) =>
    (o.after.toList.all fun e => !Region.binds .any e || decide (e.on < i)) &&
    (o.dst.isNone || l.all fun (o', j) => i == j || !(o'.dst == o.dst)) &&
    (looks ops o).all fun s => l.all fun (o', j) => i == j || !(o'.dst == some s) || bit b i j || bit b j i

def entsOk (rec : Rec) (b : List Nat) (ts : List Ent) (ms : List Hp) : Bool :=
  let l := ts.zipIdx
  let li := l.filter (·.1.imp)
  let mk := ms.zipIdx
  (li.all fun (t, i) => li.all fun (t', j) => !decide (i < j) || (bit b j i && decide (t.k < t'.k))) &&
  ((List.range (ms.length - 1)).all fun r => li.any fun (t, _) => t.k == r) &&
  (l.all fun (t, i) => t.imp || !t.wt || mk.all fun (hp, k) =>
    (li.any fun (t', j) => (decide (k ≤ t'.k) && bit b i j) || (decide (t'.k < k) && bit b j i)) ||
      match opA C rec t.x t.o hp with | some (v, _) => v.beq t.v | none => false)

def regD (rec : Rec) (ops : Array Oper) (env : List AV) (hp : Hp) : Option (List AV × Hp) :=
  let b := bitsL ops.toList []
  if orderOk ops b then
    match passA C rec ops ops.toList env [hp] 0 hp with
    | some (ts, env, ms, hp) => if entsOk C rec b ts ms then some (env, hp) else none
    | none => none
  else none

def LR.under (n t l : Nat) (r : LR) : Bool := AV.allUnder n t l r.env

/-- What a loop's round has laid is dropped, where nothing that stays points to it. -/
def trunc (n t l : Nat) (env : List AV) (hp : Hp) : Option Hp :=
  if n ≤ hp.boxes.length ∧ t ≤ hp.toks.length ∧ l ≤ hp.loops.length ∧ hp.lb ≤ n ∧ hp.lt ≤ t ∧ hp.ll ≤ l ∧ AV.allUnder n t l env = true ∧ (hp.boxes.take n).all (fun c => AV.allUnder n t l c.1) = true ∧ (hp.loops.take l).all (LR.under n t l) = true then
    some { hp with boxes := hp.boxes.take n, toks := hp.toks.take t, loops := hp.loops.take l }
  else none

def keepOf (km : List (Nat × List Nat)) (id : Nat) : List Nat :=
  match km.find? (·.1 == id) with | some (_, l) => l | none => []

/-- The slots that are kept behind a loop. -/
def outK (km : List (Nat × List Nat)) (id : Nat) : Option (List Nat) := (km.find? (·.1 == id + 100000)).map (·.2)
/-- What is left behind a loop. -/
def outF (ok : Option (List Nat)) (n t l : Nat) (env : List AV) (hp : Hp) : List AV × Hp :=
  match ok with
  | none => (env, hp)
  | some ks =>
    match trunc n t l (mask ks 0 env) hp with
    | some hp' => (mask ks 0 env, hp')
    | none => match (if t ≤ hp.toks.length then trunc n hp.toks.length l (mask ks 0 env) hp else none) with
      | some hp' => (mask ks 0 env, hp')
      | none => (mask ks 0 env, hp)
def outM (ok : Option (List Nat)) (n t l : Nat) (r : Option (AX × List AV × Hp)) : Option (AX × List AV × Hp) :=
  match r with
  | some (x, env, hp) => some (x, outF ok n t l env hp)
  | none => none

/-- The one call of a range over a function. -/
def rangeA (rec : Rec) (f : Operand) (l : Nat) (env : List AV) (hp : Hp) : Option (AV × Hp) :=
  match ev C env f with
  | .fn g cap => rec.call g (.yield l :: cap) hp
  | _ => none

/-- Code. -/
def cd (rec : Rec) (km : List (Nat × List Nat)) : Code → List AV → Hp → Option (AX × List AV × Hp)
  | .skip, env, hp => some (.normal, env, hp)
  | .region _ ops draw, env, hp => (if draw then regD C rec ops env hp else opsA C rec ops ops.toList env hp).map fun x => (.normal, x.1, x.2)
  | .seq a b, env, hp => match cd rec km a env hp with
    | some (.normal, env, hp) => cd rec km b env hp
    | r => r
  | .cond c a b, env, hp => match ev C env c with
    | .bool t => if t then cd rec km a env hp else cd rec km b env hp
    | _ => none
  | .block id c, env, hp =>
    match (match c with
      | .loop b => outM (outK km id) hp.boxes.length hp.toks.length hp.loops.length (rec.loop km (keepOf km id) hp.boxes.length hp.toks.length hp.loops.length b env hp)
      | _ => cd rec km c env hp) with
    | some (.exit j, env, hp) => if j = id then some (.normal, env, hp) else some (.exit j, env, hp)
    | r => r
  | .exit id, env, hp => some (.exit id, env, hp)
  | .ret, env, hp => some (.ret, env, hp)
  | .scope c, env, hp => cd rec km c env hp
  | .label _, env, hp => some (.normal, env, hp)
  | .rangeFunc f ps assign body, env, hp =>
    match rangeA C rec f hp.loops.length env { hp with loops := hp.loops ++ [{ env, params := ps.toList, km, assign, body, state := .ready, pending := none }] } with
    | some (_, hp1) => match hp1.loops[hp.loops.length]? with
      | some r => if r.state = .busy ∨ r.it.isSome = true then none else
        let hp2 := { hp1 with loops := hp1.loops.set hp.loops.length { r with state := .exhausted } }
        match r.pending with
        | none => some (.normal, env, hp2)
        | some .ret => some (.ret, env, hp2)
        | some (.exit id) => some (.exit id, env, hp2)
        | _ => none
      | none => none
    | none => none
  | _, _, _ => none

def loopStep (rec : Rec) (km : List (Nat × List Nat)) (keep : List Nat) (n t l : Nat) (body : Code) (env : List AV) (hp : Hp) : Option (AX × List AV × Hp) :=
  match trunc n t l (mask keep 0 env) hp with
  | some hp => match cd C rec km body (mask keep 0 env) hp with
    | some (.normal, env, hp) => rec.loop km keep n t l body env hp
    | r => r
  | none => none

def setAll : List AV → List Nat → List AV → List AV
  | env, p :: ps, x :: xs => setAll (env.set p x) ps xs
  | env, _, _ => env

def roundStep (rec : Rec) (l : Nat) (args : List AV) (hp : Hp) : Option (AV × Hp) :=
  match hp.loops[l]? with
  | some r =>
    if args.length = r.params.length ∧ r.state = .ready ∧ r.it.isNone = true then
      match cd C rec r.km r.assign (setAll r.env r.params args) hp with
      | some (.normal, env, hp1) =>
        match hp1.loops[l]? with
        | some r1 => if r1.state = .ready ∧ r1.it.isNone = true then
            match cd C rec r.km r.body env { hp1 with loops := hp1.loops.set l { r1 with state := .busy } } with
            | some (x, _, hp2) =>
              match hp2.loops[l]? with
              | some r2 => if r2.it.isSome = true then none else
                let jump : Option Code := match x with | .normal => none | .ret => some .ret | .exit id => some (.exit id)
                some (.bool jump.isNone, { hp2 with loops := hp2.loops.set l { r2 with state := if jump.isNone then .ready else .done, pending := jump } })
              | none => none
            | none => none
          else none
        | none => none
      | _ => none
    else none
  | none => none

/-- A function's results. -/
def resA (env : List AV) (hp : Hp) : List ResultVar → Option (List AV)
  | [] => some []
  | .tmp t :: l => (resA env hp l).map (env.getD t .undef :: ·)
  | .cell a t :: l => match loadA C t (env.getD a .undef) hp with
    | some v => (resA env hp l).map (v :: ·)
    | none => none

def packA : List AV → AV
  | [x] => x
  | l => .tup l

/-! A call goes in a small memory of its own: what its arguments lead to, numbered anew. -/

mutual
def AV.ren (fb ft fl : Nat → Nat) : AV → AV
  | .box b off => .box (fb b) off
  | .own t xs => .own (ft t) xs
  | .raw t xs => .raw (ft t) xs
  | .yield l => .yield (fl l)
  | .iter l => .iter (fl l)
  | .lits xs => .lits (AV.rens fb ft fl xs)
  | .agg xs => .agg (AV.rens fb ft fl xs)
  | .tup xs => .tup (AV.rens fb ft fl xs)
  | .elem xs => .elem (AV.rens fb ft fl xs)
  | .fn f xs => .fn f (AV.rens fb ft fl xs)
  | x => x
def AV.rens (fb ft fl : Nat → Nat) : List AV → List AV
  | [] => []
  | x :: xs => x.ren fb ft fl :: AV.rens fb ft fl xs
end

mutual
/-- All that it leads to at once is among these. -/
def AV.cov (bs ts ls : List Nat) : AV → Bool
  | .box b _ => bs.contains b
  | .own t _ => ts.contains t
  | .raw t _ => ts.contains t
  | .yield l => ls.contains l
  | .iter l => ls.contains l
  | .lits xs => AV.covs bs ts ls xs
  | .agg xs => AV.covs bs ts ls xs
  | .tup xs => AV.covs bs ts ls xs
  | .elem xs => AV.covs bs ts ls xs
  | .fn _ xs => AV.covs bs ts ls xs
  | _ => true
def AV.covs (bs ts ls : List Nat) : List AV → Bool
  | [] => true
  | x :: xs => x.cov bs ts ls && AV.covs bs ts ls xs
end

mutual
def AV.refs : AV → List (Nat × Nat)
  | .box b _ => [(0, b)]
  | .own t _ => [(1, t)]
  | .raw t _ => [(1, t)]
  | .yield l => [(2, l)]
  | .iter l => [(2, l)]
  | .lits xs => AV.refss xs
  | .agg xs => AV.refss xs
  | .tup xs => AV.refss xs
  | .elem xs => AV.refss xs
  | .fn _ xs => AV.refss xs
  | _ => []
def AV.refss : List AV → List (Nat × Nat)
  | [] => []
  | x :: xs => x.refs ++ AV.refss xs
end

def refsAt (hp : Hp) : Nat × Nat → List (Nat × Nat)
  | (0, b) => match hp.boxes[b]? with | some c => AV.refss c.1 | none => []
  | (2, l) => match hp.loops[l]? with | some r => AV.refss r.env | none => []
  | _ => []

def closeR (hp : Hp) : Nat → List (Nat × Nat) → List (Nat × Nat) → List (Nat × Nat)
  | 0, seen, _ => seen
  | _ + 1, seen, [] => seen
  | k + 1, seen, r :: todo => if seen.any (fun q => q.1 == r.1 && q.2 == r.2) then closeR hp k seen todo else closeR hp k (seen ++ [r]) (todo ++ refsAt hp r)

def pickR (k : Nat) (l : List (Nat × Nat)) : List Nat := (l.filter (·.1 == k)).map (·.2)

/-- What is taken along. -/
structure Sel where
  bs : List Nat
  ts : List Nat
  ls : List Nat

def selOf (hp : Hp) (seed : List (Nat × Nat)) (roots : List AV) : Sel :=
  let l := closeR hp 4096 seed (seed.flatMap (refsAt hp) ++ AV.refss roots)
  ⟨pickR 0 l, pickR 1 l, pickR 2 l⟩

def nodupB : List Nat → Bool
  | [] => true
  | x :: xs => !xs.contains x && nodupB xs

def Sel.cov (s : Sel) : List AV → Bool := AV.covs s.bs s.ts s.ls
def Sel.ren (s : Sel) : List AV → List AV := AV.rens s.bs.idxOf s.ts.idxOf s.ls.idxOf
def Sel.ok (s : Sel) (hp : Hp) (roots : List AV) : Bool :=
  nodupB s.bs && nodupB s.ts && nodupB s.ls && s.cov roots &&
  s.bs.all (fun b => match hp.boxes[b]? with | some c => s.cov c.1 | none => false) &&
  s.ts.all (fun t => decide (t < hp.toks.length)) &&
  s.ls.all (fun l => match hp.loops[l]? with | some r => s.cov r.env | none => false) &&
  hp.lb == 0 && hp.lt == 0 && hp.ll == 0
def Sel.hp (s : Sel) (hp : Hp) : Hp where
  boxes := s.bs.map fun b => match hp.boxes[b]? with | some c => (s.ren c.1, c.2) | none => ([], 0)
  toks := s.ts.map fun t => match hp.toks[t]? with | some c => c | none => (0, none)
  loops := s.ls.map fun l => match hp.loops[l]? with | some r => { r with env := s.ren r.env } | none => default
  lb := 0
  lt := 0
  ll := 0

def setAt {α : Type} : List α → List Nat → List α → List α
  | l, b :: bs, x :: xs => setAt (l.set b x) bs xs
  | l, _, _ => l

/-- The number outside. -/
def fbig (bs : List Nat) (n i : Nat) : Nat := match bs[i]? with | some b => b | none => n + (i - bs.length)

/-- What was in the small memory is put back. -/
def embed (s : Sel) (hp : Hp) (r : AV) (h1 : Hp) : AV × Hp :=
  let fb := fbig s.bs hp.boxes.length
  let ft := fbig s.ts hp.toks.length
  let fl := fbig s.ls hp.loops.length
  let bx := h1.boxes.map fun c => (AV.rens fb ft fl c.1, c.2)
  let lx := h1.loops.map fun r => { r with env := AV.rens fb ft fl r.env }
  (r.ren fb ft fl, { hp with
    boxes := setAt hp.boxes s.bs bx ++ bx.drop s.bs.length
    toks := setAt hp.toks s.ts h1.toks ++ h1.toks.drop s.ts.length
    loops := setAt hp.loops s.ls lx ++ lx.drop s.ls.length })

/-- Of what the call has laid, what its result and its arguments' memory lead to stays. -/
def gcA (nb nt nl : Nat) (r : AV) (h1 : Hp) : Option (AV × Hp) :=
  let seed := (List.range nb).map (0, ·) ++ ((List.range nt).map (1, ·) ++ (List.range nl).map (2, ·))
  let s := selOf h1 seed [r]
  if s.ok h1 [r] = true ∧ s.bs.take nb = List.range nb ∧ s.ts.take nt = List.range nt ∧ s.ls.take nl = List.range nl then
    some (r.ren s.bs.idxOf s.ts.idxOf s.ls.idxOf, s.hp h1)
  else none

/-- An argument as it is handed in: rights to append are dropped. -/
def canonA (x : AV) : AV := match x.toData with | some y => y | none => x

def bodyStep (rec : Rec) (f : FuncId) (args : List AV) (hp : Hp) : Option (AV × Hp) :=
  match C.P.funcs[f]? with
  | some fn => match fn.body with
    | some c =>
      if fn.name = "runtime.NumGoroutine" then none else
      match cd C rec (C.km f) c (args ++ List.replicate (fn.ntmps - args.length) .undef) hp with
      | some (.exit _, _, _) => none
      | some (_, env, hp) => (resA C env hp fn.results.toList).map fun l => (packA l, hp)
      | none => none
    | none => none
  | none => none

def coreStep (rec : Rec) (f : FuncId) (args : List AV) (hp : Hp) : Option (AV × Hp) :=
  match bodyStep C rec f args hp with
  | some (r, h1) => gcA hp.boxes.length hp.toks.length hp.loops.length r h1
  | none => none

def handed (f : FuncId) (args : List AV) : List AV := if C.kt f then args else args.map canonA

def callStep (rec : Rec) (f : FuncId) (args : List AV) (hp : Hp) : Option (AV × Hp) :=
  match C.prim f with
  | some F => F args hp
  | none =>
    let s := selOf hp [] (handed C f args)
    if s.ok hp (handed C f args) then
      match coreStep C rec f (s.ren (handed C f args)) (s.hp hp) with
      | some (r, h1) => some (embed s hp r h1)
      | none => none
    else none

def ai : Nat → Rec
  | 0 => ⟨fun _ _ _ => none, fun _ _ _ _ _ _ _ _ => none, fun _ _ _ => none⟩
  | k + 1 => ⟨callStep C (ai k), loopStep C (ai k), roundStep C (ai k)⟩

end
end Go.Proofs.YtkddphdhcejdaaaDoor.AI
