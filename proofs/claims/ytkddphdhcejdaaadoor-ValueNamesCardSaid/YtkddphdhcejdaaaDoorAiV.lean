/-
  Functions of the library that are answered by what is proved of them: what the interpreter takes for them.
-/
import Derived.Test.YtkddphdhcejdaaaDoorAiU
import Derived.Lib.Repeat
import Derived.Lib.Bytealg
import Derived.Lib.IndexMore
import Derived.Lib.ItoaNum
import Derived.Lib.ParseIntB
set_option linter.unusedVariables false
namespace Go.Proofs.YtkddphdhcejdaaaDoor.AI

def pFormatInt : List AV → Hp → Option (AV × Hp)
  | [.int .i64 n, .int .i64 10], hp => if -9223372036854775808 ≤ n ∧ n ≤ 9223372036854775807 then some (.str ⟨(Lib.itoa n).toArray⟩, hp) else none
  | _, _ => none
def pItoa : List AV → Hp → Option (AV × Hp)
  | [.int .i64 n], hp => if -9223372036854775808 ≤ n ∧ n ≤ 9223372036854775807 then some (.str ⟨(Lib.itoa n).toArray⟩, hp) else none
  | _, _ => none
def pParseInt : List AV → Hp → Option (AV × Hp)
  | [.str s, .int .i64 10, .int .i64 64], hp =>
    if s.size ≤ 281474976710656 then
      match Lib.parseIntB 64 s.data.toList with
      | .ok v => some (.tup [.int .i64 v, .nili], hp)
      | .range => some (.tup [.int .i64 (Lib.intSat 64 s.data.toList), .errv], hp)
      | _ => some (.tup [.int .i64 0, .errv], hp)
    else none
  | _, _ => none
def pIndexRune : List AV → Hp → Option (AV × Hp)
  | [.str s, .int .i32 r], hp => if 0 ≤ r ∧ r < 128 then some (.int .i64 (Lib.indexByte s.data.toList r.toNat.toUInt8), hp) else none
  | _, _ => none
/-- a: a string of ASCII letters of which runes beyond are none -/
def pIndexRuneL (a : List UInt8) : List AV → Hp → Option (AV × Hp)
  | [.str s, .int .i32 r], hp => if 0 ≤ r ∧ r < 128 then some (.int .i64 (Lib.indexByte s.data.toList r.toNat.toUInt8), hp) else if s.data.toList = a ∧ 128 ≤ r ∧ hp.lb = 0 ∧ hp.lt = 0 ∧ hp.ll = 0 then some (.int .i64 (-1), hp) else none
  | _, _ => none
def pIndexByte : List AV → Hp → Option (AV × Hp)
  | [.str s, .int .u8 c], hp => some (.int .i64 (Lib.indexByte s.data.toList c.toNat.toUInt8), hp)
  | _, _ => none
def pCount : List AV → Hp → Option (AV × Hp)
  | [.str s, .str t], hp => match t.data.toList with
    | [c] => some (.int .i64 (Lib.countByte s.data.toList c), hp)
    | _ => none
  | _, _ => none
/-- bt: the Builder's own type -/
def pCopyCheck (bt : TypeId) : List AV → Hp → Option (AV × Hp)
  | [.box b 0], hp => match hp.boxes[b]? with
    | some ([.nilp, y], t) => if t = bt then some (.tup [], { hp with boxes := hp.boxes.set b ([.box b 0, y], t) }) else none
    | some ([.box b' 0, y], _) => if b' = b then some (.tup [], hp) else none
    | _ => none
  | _, _ => none
def pRepeat : List AV → Hp → Option (AV × Hp)
  | [.str s, .int .i64 n], hp => if 2 ≤ n ∧ n ≤ 65536 ∧ 0 < s.size ∧ s.size ≤ 65536 then some (.str ⟨(Lib.repeatL s.data.toList n.toNat).toArray⟩, hp) else none
  | _, _ => none
def pNone : List AV → Hp → Option (AV × Hp) := fun _ _ => none

end Go.Proofs.YtkddphdhcejdaaaDoor.AI
