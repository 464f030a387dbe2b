/-
  The interpreter with answers that are supplied where values are open: what each answer rests on is collected, and is shown by itself.
-/
import Derived.Test.YtkddphdhcejdaaaDoorAiQ
import Derived.KernelRfl
set_option linter.unusedVariables false
set_option linter.unusedSimpArgs false
namespace Go.Proofs.YtkddphdhcejdaaaDoor.AI
open Go.RowKit

/-- From some fuel on. -/
def Ev (p : Nat → Prop) : Prop := ∃ k0, ∀ k, k0 ≤ k → p k
theorem Ev.mono {p q : Nat → Prop} (h : Ev p) (f : ∀ k, p k → q k) : Ev q := let ⟨k0, h⟩ := h; ⟨k0, fun k hk => f k (h k hk)⟩
theorem Ev.and {p q : Nat → Prop} (h : Ev p) (g : Ev q) : Ev fun k => p k ∧ q k :=
  let ⟨k0, h⟩ := h; let ⟨k1, g⟩ := g; ⟨max k0 k1, fun k hk => ⟨h k (by omega), g k (by omega)⟩⟩
theorem Ev.succ {p q : Nat → Prop} (h : Ev p) (f : ∀ k, p k → q (k + 1)) : Ev q :=
  let ⟨k0, h⟩ := h; ⟨k0 + 1, fun k hk => by obtain ⟨j, rfl⟩ : ∃ j, k = j + 1 := ⟨k - 1, by omega⟩; exact f j (h j (by omega))⟩
theorem Ev.of {p : Nat → Prop} (h : ∀ k, p k) : Ev p := ⟨0, fun k _ => h k⟩

section
variable (C : Cfg)

def CallE (f : FuncId) (args : List AV) (hp : Hp) (r : AV) (hp' : Hp) : Prop := Ev fun k => (ai C k).call f args hp = some (r, hp')
def CoreE (f : FuncId) (args : List AV) (hp : Hp) (r : AV) (hp' : Hp) : Prop := Ev fun k => coreStep C (ai C k) f args hp = some (r, hp')
/-- What a loop leaves behind. -/
def LoopR (ok : Option (List Nat)) (km : List (Nat × List Nat)) (keep : List Nat) (n t l : Nat) (b : Code) (env : List AV) (hp : Hp) (x : AX) (env' : List AV) (hp' : Hp) : Prop :=
  Ev fun k => outM ok n t l ((ai C k).loop km keep n t l b env hp) = some (x, env', hp')
def RoundE (l : Nat) (args : List AV) (hp : Hp) (r : AV) (hp' : Hp) : Prop := Ev fun k => (ai C k).round l args hp = some (r, hp')

def rec0 : Rec := ⟨fun _ _ _ => none, fun _ _ _ _ _ _ _ _ => none, fun _ _ _ => none⟩
def OpH (env : List AV) (o : Oper) (hp : Hp) (x : AV) (hp' : Hp) : Prop := opA C rec0 env o hp = some (x, hp')

/-- An answer: a condition's; an operation's (and the memory behind it); a call's, in its small memory; a loop's. -/
inductive Or where
  | b (t : Bool)
  | v (x : AV)
  | vh (x : AV) (hp : Hp)
  | c (x : AV) (hp : Hp)
  | l (x : AX) (env : List AV) (hp : Hp)

/-- How many questions there were; the answers that are left, by their questions' numbers; what they rest on. -/
structure St where
  n : Nat
  os : List (Nat × Or)
  cs : List Prop

def St.ask (s : St) : Option Or × St :=
  match s.os with
  | (m, o) :: os => if Nat.beq m s.n then (some o, ⟨s.n + 1, os, s.cs⟩) else (none, ⟨s.n + 1, s.os, s.cs⟩)
  | [] => (none, ⟨s.n + 1, [], s.cs⟩)
def St.add (s : St) (p : Prop) : St := ⟨s.n, s.os, p :: s.cs⟩
def St.adds (s : St) (ps : List Prop) : St := ⟨s.n, s.os, ps ++ s.cs⟩
def AllP : List Prop → Prop
  | [] => True
  | p :: ps => p ∧ AllP ps

structure RecO where
  call : FuncId → List AV → Hp → St → Option ((AV × Hp) × St)
  loop : Option (List Nat) → List (Nat × List Nat) → List Nat → Nat → Nat → Nat → Code → List AV → Hp → St → Option ((AX × List AV × Hp) × St)
  round : Nat → List AV → Hp → St → Option ((AV × Hp) × St)

def doCall (ro : RecO) (g : FuncId) (as : List AV) (hp : Hp) (st : St) : Option ((AV × Hp) × St) :=
  match st.ask with
  | (some (.vh x hp'), st) => some ((x, hp'), st.add (CallE C g as hp x hp'))
  | (some (.v x), st) => some ((x, hp), st.add (CallE C g as hp x hp))
  | (some (.c r h1), st) =>
    match C.prim g with
    | some _ => none
    | none =>
      let s := selOf hp [] (handed C g as)
      if s.ok hp (handed C g as) = true ∧ (s.hp hp).boxes.length = s.bs.length then some (embed s hp r h1, st.add (CoreE C g (s.ren (handed C g as)) (s.hp hp) r h1)) else none
  | (none, st) => ro.call g as hp st
  | _ => none

def callVO (ro : RecO) (f : AV) (as : List AV) (hp : Hp) (st : St) : Option ((AV × Hp) × St) :=
  match f with
  | .fn g cap => doCall C ro g (as ++ cap) hp st
  | .yield l =>
    match st.ask with
    | (some (.vh x hp'), st) => some ((x, hp'), st.add (RoundE C l as hp x hp'))
    | (none, st) => ro.round l as hp st
    | _ => none
  | _ => none

def plainO (env : List AV) (o : Oper) (hp : Hp) (st : St) : Option ((AV × Hp) × St) :=
  match st.ask with
  | (some (.v x), st) => some ((x, hp), st.add (OpH C env o hp x hp))
  | (some (.vh x hp'), st) => some ((x, hp'), st.add (OpH C env o hp x hp'))
  | (none, st) => match opA C rec0 env o hp with
    | some r => some (r, st)
    | none => none
  | _ => none

def opO (ro : RecO) (env : List AV) (o : Oper) (hp : Hp) (st : St) : Option ((AV × Hp) × St) :=
  match o.op with
  | .call { callee := .value f, args, .. } => callVO C ro (ev C env f) (args.toList.map (ev C env)) hp st
  | _ => plainO C env o hp st

def wantO (ops : Array Oper) (env : List AV) (o : Oper) (st : St) : Option (Bool × St) :=
  match o.guard with
  | none => some (true, st)
  | some (j, want) =>
    match (ops[j]?).bind (·.dst) with
    | some d =>
      match st.ask with
      | (some (.b t), st) => some (t == want, st.add (env[d]? = some (.bool t)))
      | (none, st) =>
        match env[d]? with
        | some (.bool b) => some (b == want, st)
        | some .undef => none
        | _ => some (false, st)
      | _ => none
    | none => some (false, st)

def opsO (ro : RecO) (ops : Array Oper) : List Oper → List AV → Hp → St → Option ((List AV × Hp) × St)
  | [], env, hp, st => some ((env, hp), st)
  | o :: l, env, hp, st =>
    match wantO ops env o st with
    | some (true, st) => match opO C ro env o hp st with
      | some ((v, hp), st) => opsO ro ops l (putA env o v) hp st
      | none => none
    | some (false, st) => opsO ro ops l (putA env o .no) hp st
    | none => none

/-- Operations that don't look into memory. -/
def memFree (x : List AV) (o : Oper) : Bool :=
  match o.op with
  | .move y | .assign y => noNils (ev C x y)
  | .pick .. | .build .. | .nilCheck _ | .binOp .. | .unOp .. | .convert .. | .makeFunc ..
  | .slice .. | .fieldAddr .. | .field .. | .indexAddr .. | .index .. | .extract .. => true
  | .call { callee := .builtin .len, .. } => true
  | _ => false

def passO (ro : RecO) (ops : Array Oper) : List Oper → List AV → List Hp → Nat → Hp → St → Option ((List Ent × List AV × List Hp × Hp) × St)
  | [], env, ms, _, hp, st => some (([], env, ms, hp), st)
  | o :: l, env, ms, k, hp, st =>
    match wantO ops (mask (looks ops o) 0 env) o st with
    | some (true, st) => match opO C ro (mask (looks ops o) 0 env) o hp st with
      | some ((v, hp1), st) =>
        if still C (mask (looks ops o) 0 env) o then (passO ro ops l (putA env o v) ms k hp st).map fun r => ((⟨o, mask (looks ops o) 0 env, v, true, false, k⟩ :: r.1.1, r.1.2), r.2)
        else (passO ro ops l (putA env o v) (ms ++ [hp1]) (k + 1) hp1 st).map fun r => ((⟨o, mask (looks ops o) 0 env, v, true, true, k⟩ :: r.1.1, r.1.2), r.2)
      | none => none
    | some (false, st) => (passO ro ops l (putA env o .no) ms k hp st).map fun r => ((⟨o, mask (looks ops o) 0 env, .no, false, false, k⟩ :: r.1.1, r.1.2), r.2)
    | none => none

def entsA (b : List Nat) (ts : List Ent) (ms : List Hp) : Bool :=
  let li := ts.zipIdx.filter (·.1.imp)
  (li.all fun (t, i) => li.all fun (t', j) => !decide (i < j) || (bit b j i && decide (t.k < t'.k))) &&
  ((List.range (ms.length - 1)).all fun r => li.any fun (t, _) => t.k == r)

/-- Is the operation's place among those that turn memory fixed? -/
def placed (b : List Nat) (ts : List Ent) (i k : Nat) : Bool :=
  (ts.zipIdx.filter (·.1.imp)).any fun (t', j) => (decide (k ≤ t'.k) && bit b i j) || (decide (t'.k < k) && bit b j i)

def entsP1 (b : List Nat) (ts : List Ent) (t : Ent) (i : Nat) : List (Hp × Nat) → List Prop
  | [] => []
  | (hp, k) :: l => if placed b ts i k then entsP1 b ts t i l else OpH C t.x t.o hp t.v hp :: entsP1 b ts t i l

def entsP (b : List Nat) (ts : List Ent) (ms : List Hp) : List (Ent × Nat) → List Prop
  | [] => []
  | (t, i) :: l => if t.imp || !t.wt || memFree C t.x t.o then entsP b ts ms l else entsP1 C b ts t i ms.zipIdx ++ entsP b ts ms l

def regO (ro : RecO) (ops : Array Oper) (env : List AV) (hp : Hp) (st : St) : Option ((List AV × Hp) × St) :=
  if orderOk ops (bitsL ops.toList []) then
    match passO C ro ops ops.toList env [hp] 0 hp st with
    | some ((ts, env, ms, hp), st) => if entsA (bitsL ops.toList []) ts ms then some ((env, hp), st.adds (entsP C (bitsL ops.toList []) ts ms ts.zipIdx)) else none
    | none => none
  else none

def askLoop (ro : RecO) (ok : Option (List Nat)) (km : List (Nat × List Nat)) (keep : List Nat) (n t l : Nat) (b : Code) (env : List AV) (hp : Hp) (st : St) : Option ((AX × List AV × Hp) × St) :=
  match st.ask with
  | (some (.l x env' hp'), st) => some ((x, env', hp'), st.add (LoopR C ok km keep n t l b env hp x env' hp'))
  | (none, st) => ro.loop ok km keep n t l b env hp st
  | _ => none

def cdO (ro : RecO) (km : List (Nat × List Nat)) : Code → List AV → Hp → St → Option ((AX × List AV × Hp) × St)
  | .skip, env, hp, st => some ((.normal, env, hp), st)
  | .region _ ops draw, env, hp, st => (if draw then regO C ro ops env hp st else opsO C ro ops ops.toList env hp st).map fun x => ((.normal, x.1.1, x.1.2), x.2)
  | .seq a b, env, hp, st => match cdO ro km a env hp st with
    | some ((.normal, env, hp), st) => cdO ro km b env hp st
    | r => r
  | .cond c a b, env, hp, st =>
    match st.ask with
    | (some (.b t), st) => if t then cdO ro km a env hp (st.add (ev C env c = .bool t)) else cdO ro km b env hp (st.add (ev C env c = .bool t))
    | (none, st) => match ev C env c with
      | .bool t => if t then cdO ro km a env hp st else cdO ro km b env hp st
      | _ => none
    | _ => none
  | .block id c, env, hp, st =>
    match (match c with
      | .loop b => askLoop C ro (outK km id) km (keepOf km id) hp.boxes.length hp.toks.length hp.loops.length b env hp st
      | _ => cdO ro km c env hp st) with
    | some ((.exit j, env, hp), st) => if j = id then some ((.normal, env, hp), st) else some ((.exit j, env, hp), st)
    | r => r
  | .exit id, env, hp, st => some ((.exit id, env, hp), st)
  | .ret, env, hp, st => some ((.ret, env, hp), st)
  | .scope c, env, hp, st => cdO ro km c env hp st
  | .label _, env, hp, st => some ((.normal, env, hp), st)
  | .rangeFunc f ps assign body, env, hp, st =>
    match ev C env f with
    | .fn g cap =>
      match doCall C ro g (.yield hp.loops.length :: cap) { hp with loops := hp.loops ++ [{ env, params := ps.toList, km, assign, body, state := .ready, pending := none }] } st with
      | some ((_, hp1), st) => match hp1.loops[hp.loops.length]? with
        | some r => if r.state = .busy ∨ r.it.isSome = true then none else
          let hp2 := { hp1 with loops := hp1.loops.set hp.loops.length { r with state := .exhausted } }
          match r.pending with
          | none => some ((.normal, env, hp2), st)
          | some .ret => some ((.ret, env, hp2), st)
          | some (.exit id) => some ((.exit id, env, hp2), st)
          | _ => none
        | none => none
      | none => none
    | _ => none
  | _, _, _, _ => none

def loopStepO (ro : RecO) (ok : Option (List Nat)) (km : List (Nat × List Nat)) (keep : List Nat) (n t l : Nat) (body : Code) (env : List AV) (hp : Hp) (st : St) : Option ((AX × List AV × Hp) × St) :=
  match trunc n t l (mask keep 0 env) hp with
  | some hp => match cdO C ro km body (mask keep 0 env) hp st with
    | some ((.normal, env, hp), st) => askLoop C ro ok km keep n t l body env hp st
    | some ((x, env, hp), st) => some ((x, outF ok n t l env hp), st)
    | none => none
  | none => none

def roundStepO (ro : RecO) (l : Nat) (args : List AV) (hp : Hp) (st : St) : Option ((AV × Hp) × St) :=
  match hp.loops[l]? with
  | some r =>
    if args.length = r.params.length ∧ r.state = .ready ∧ r.it.isNone = true then
      match cdO C ro r.km r.assign (setAll r.env r.params args) hp st with
      | some ((.normal, env, hp1), st) =>
        match hp1.loops[l]? with
        | some r1 => if r1.state = .ready ∧ r1.it.isNone = true then
            match cdO C ro r.km r.body env { hp1 with loops := hp1.loops.set l { r1 with state := .busy } } st with
            | some ((x, _, hp2), st) =>
              match hp2.loops[l]? with
              | some r2 => if r2.it.isSome = true then none else
                let jump : Option Code := match x with | .normal => none | .ret => some .ret | .exit id => some (.exit id)
                some ((.bool jump.isNone, { hp2 with loops := hp2.loops.set l { r2 with state := if jump.isNone then .ready else .done, pending := jump } }), st)
              | none => none
            | none => none
          else none
        | none => none
      | _ => none
    else none
  | none => none

def bodyO (ro : RecO) (f : FuncId) (args : List AV) (hp : Hp) (st : St) : Option ((AV × Hp) × St) :=
  match C.P.funcs[f]? with
  | some fn => match fn.body with
    | some c =>
      if fn.name = "runtime.NumGoroutine" then none else
      match cdO C ro (C.km f) c (args ++ List.replicate (fn.ntmps - args.length) .undef) hp st with
      | some ((.exit _, _, _), _) => none
      | some ((_, env, hp), st) => (resA C env hp fn.results.toList).map fun l => ((packA l, hp), st)
      | none => none
    | none => none
  | none => none

def coreO (ro : RecO) (f : FuncId) (args : List AV) (hp : Hp) (st : St) : Option ((AV × Hp) × St) :=
  match bodyO C ro f args hp st with
  | some ((r, h1), st) => (gcA hp.boxes.length hp.toks.length hp.loops.length r h1).map (·, st)
  | none => none

def callStepO (ro : RecO) (f : FuncId) (args : List AV) (hp : Hp) (st : St) : Option ((AV × Hp) × St) :=
  match C.prim f with
  | some F => (F args hp).map (·, st)
  | none =>
    let s := selOf hp [] (handed C f args)
    if s.ok hp (handed C f args) then
      match coreO C ro f (s.ren (handed C f args)) (s.hp hp) st with
      | some ((r, h1), st) => some (embed s hp r h1, st)
      | none => none
    else none

def aiO : Nat → RecO
  | 0 => ⟨fun _ _ _ _ => none, fun _ _ _ _ _ _ _ _ _ _ => none, fun _ _ _ _ => none⟩
  | k + 1 => ⟨callStepO C (aiO k), loopStepO C (aiO k), roundStepO C (aiO k)⟩

end

/-! It tells no more than the interpreter -/

variable {C : Cfg}

def Snd {α : Type} (r : Option (α × St)) (st : St) (G : α → Prop) : Prop := ∀ a st', r = some (a, st') → AllP st'.cs → AllP st.cs ∧ G a

theorem ask_cs (st : St) : st.ask.2.cs = st.cs := by
  unfold St.ask
  split
  · split <;> rfl
  · rfl

theorem allP_append : ∀ {ps qs : List Prop}, AllP (ps ++ qs) → AllP ps ∧ AllP qs
  | [], qs, h => ⟨trivial, h⟩
  | p :: ps, qs, h => let ⟨h1, h2⟩ := allP_append h.2; ⟨⟨h.1, h1⟩, h2⟩

mutual
theorem AV.beq_refl : ∀ a : AV, a.beq a = true
  | .int k n => by simp [AV.beq]
  | .bool x => by simp [AV.beq]
  | .str s => by simp [AV.beq]
  | .nils => rfl
  | .list xs => by rw [AV.beq]; exact AV.beqs_refl xs
  | .own t xs => by simp [AV.beq, AV.beqs_refl xs]
  | .lits xs => by rw [AV.beq]; exact AV.beqs_refl xs
  | .agg xs => by rw [AV.beq]; exact AV.beqs_refl xs
  | .tup xs => by rw [AV.beq]; exact AV.beqs_refl xs
  | .nilp => rfl
  | .box x i => by simp [AV.beq]
  | .elem xs => by rw [AV.beq]; exact AV.beqs_refl xs
  | .fn f xs => by simp [AV.beq, AV.beqs_refl xs]
  | .yield l => by simp [AV.beq]
  | .iter l => by simp [AV.beq]
  | .raw t xs => by simp [AV.beq, AV.beqs_refl xs]
  | .rawz => rfl
  | .nilf => rfl
  | .nili => rfl
  | .errv => rfl
  | .undef => rfl
  | .no => rfl
theorem AV.beqs_refl : ∀ a : List AV, AV.beqs a a = true
  | [] => rfl
  | x :: xs => by simp [AV.beqs, AV.beq_refl x, AV.beqs_refl xs]
end

structure RecS (C : Cfg) (ro : RecO) : Prop where
  call : ∀ f args hp st, Snd (ro.call f args hp st) st fun a => CallE C f args hp a.1 a.2
  loop : ∀ ok km keep n t l b env hp st, Snd (ro.loop ok km keep n t l b env hp st) st fun a => LoopR C ok km keep n t l b env hp a.1 a.2.1 a.2.2
  round : ∀ l args hp st, Snd (ro.round l args hp st) st fun a => RoundE C l args hp a.1 a.2

theorem callE_of_core {g : FuncId} {as : List AV} {hp : Hp} {r : AV} {h1 : Hp} (hp0 : C.prim g = none) (hs : (selOf hp [] (handed C g as)).ok hp (handed C g as) = true)
    (h : CoreE C g ((selOf hp [] (handed C g as)).ren (handed C g as)) ((selOf hp [] (handed C g as)).hp hp) r h1) :
    CallE C g as hp (embed (selOf hp [] (handed C g as)) hp r h1).1 (embed (selOf hp [] (handed C g as)) hp r h1).2 := by
  refine h.succ fun k hk => ?_
  show callStep C (ai C k) g as hp = _
  unfold callStep
  simp only [hp0, hs, if_true, hk]

section
variable {ro : RecO} (hro : RecS C ro)
include hro

theorem doCall_snd (g : FuncId) (as : List AV) (hp : Hp) (st : St) : Snd (doCall C ro g as hp st) st fun a => CallE C g as hp a.1 a.2 := by
  intro a st' h hc
  have hcs := ask_cs st
  unfold doCall at h
  split at h
  · rename_i x hp' st1 ha
    rw [ha] at hcs
    cases h
    exact ⟨hcs ▸ hc.2, hc.1⟩
  · rename_i x st1 ha
    rw [ha] at hcs
    cases h
    exact ⟨hcs ▸ hc.2, hc.1⟩
  · rename_i r h1 st1 ha
    rw [ha] at hcs
    split at h
    · cases h
    · rename_i hp0
      dsimp only at h
      split at h
      · rename_i hs
        cases h
        exact ⟨hcs ▸ hc.2, callE_of_core hp0 hs.1 hc.1⟩
      · cases h
  · rename_i st1 ha
    rw [ha] at hcs
    have := hro.call g as hp st1 a st' h hc
    exact ⟨hcs ▸ this.1, this.2⟩
  · cases h

theorem callVO_snd (f : AV) (as : List AV) (hp : Hp) (st : St) : Snd (callVO C ro f as hp st) st fun a => Ev fun k => callA (ai C k) f as hp = some a := by
  intro a st' h hc
  unfold callVO at h
  split at h
  · exact doCall_snd hro _ _ _ _ a st' h hc
  · have hcs := ask_cs st
    split at h
    · rename_i x hp' st1 ha
      rw [ha] at hcs
      cases h
      exact ⟨hcs ▸ hc.2, hc.1⟩
    · rename_i st1 ha
      rw [ha] at hcs
      have := hro.round _ as hp st1 a st' h hc
      exact ⟨hcs ▸ this.1, this.2⟩
    · cases h
  · cases h

omit hro in
theorem opA_rec (rec : Rec) (env : List AV) (o : Oper) (hp : Hp) (ho : ∀ f args ats, o.op ≠ .call { callee := .value f, args := args, argTypes := ats }) : opA C rec env o hp = opA C rec0 env o hp := by
  unfold opA
  dsimp only
  cases hop : o.op <;> try rfl
  case makeFunc fn _ _ => cases fn <;> rfl
  case next x b => cases b <;> rfl
  case call c =>
    obtain ⟨callee, args, ats⟩ := c
    cases callee with
    | value f => exact absurd hop (ho f args ats)
    | invoke rv name => rfl
    | builtin b => cases b <;> rfl

omit hro in
theorem plainO_snd (env : List AV) (o : Oper) (hp : Hp) (st : St) (ho : ∀ f args ats, o.op ≠ .call { callee := .value f, args := args, argTypes := ats }) : Snd (plainO C env o hp st) st fun a => Ev fun k => opA C (ai C k) env o hp = some a := by
  intro a st' h hc
  have hcs := ask_cs st
  unfold plainO at h
  split at h
  · rename_i x st1 ha
    rw [ha] at hcs
    cases h
    exact ⟨hcs ▸ hc.2, Ev.of fun k => by rw [opA_rec _ _ _ _ ho]; exact hc.1⟩
  · rename_i x hp' st1 ha
    rw [ha] at hcs
    cases h
    exact ⟨hcs ▸ hc.2, Ev.of fun k => by rw [opA_rec _ _ _ _ ho]; exact hc.1⟩
  · rename_i st1 ha
    rw [ha] at hcs
    split at h
    · rename_i r hr
      cases h
      exact ⟨hcs ▸ hc, Ev.of fun k => by rw [opA_rec _ _ _ _ ho]; exact hr⟩
    · cases h
  · cases h

theorem opO_snd (env : List AV) (o : Oper) (hp : Hp) (st : St) : Snd (opO C ro env o hp st) st fun a => Ev fun k => opA C (ai C k) env o hp = some a := by
  intro a st' h hc
  unfold opO at h
  split at h
  · rename_i f args ats hop
    obtain ⟨h1, h2⟩ := callVO_snd hro _ _ _ _ a st' h hc
    refine ⟨h1, h2.mono fun k hk => ?_⟩
    unfold opA
    simp only [hop]
    exact hk
  · rename_i hop
    exact plainO_snd env o hp st (fun f args ats hh => hop f args ats hh) a st' h hc

omit hro in
theorem wantO_snd (ops : Array Oper) (env : List AV) (o : Oper) (st : St) : Snd (wantO ops env o st) st fun b => wantA ops env o = some b := by
  intro a st' h hc
  have hcs := ask_cs st
  unfold wantO at h
  split at h
  · rename_i hg
    cases h
    exact ⟨hc, by simp only [wantA, hg]⟩
  · rename_i j want hg
    split at h
    · rename_i d hd
      split at h
      · rename_i t st1 ha
        rw [ha] at hcs
        cases h
        exact ⟨hcs ▸ hc.2, by simp only [wantA, hg, hd, hc.1]⟩
      · rename_i st1 ha
        rw [ha] at hcs
        split at h
        · rename_i b hb
          cases h
          exact ⟨hcs ▸ hc, by simp only [wantA, hg, hd, hb]⟩
        · cases h
        · rename_i h1 h2
          cases h
          refine ⟨hcs ▸ hc, ?_⟩
          simp only [wantA, hg, hd]
      · cases h
    · rename_i hd
      cases h
      exact ⟨hc, by simp only [wantA, hg, hd]⟩

theorem opsO_snd (ops : Array Oper) : ∀ (l : List Oper) (env : List AV) (hp : Hp) (st : St), Snd (opsO C ro ops l env hp st) st fun a => Ev fun k => opsA C (ai C k) ops l env hp = some a
  | [], env, hp, st => fun a st' h hc => by
    cases h
    exact ⟨hc, Ev.of fun _ => rfl⟩
  | o :: l, env, hp, st => fun a st' h hc => by
    unfold opsO at h
    split at h
    · rename_i st1 hw
      split at h
      · rename_i v hp1 st2 ho
        obtain ⟨h1, h2⟩ := opsO_snd ops l _ _ _ a st' h hc
        obtain ⟨h3, h4⟩ := opO_snd hro _ _ _ _ _ _ ho h1
        obtain ⟨h5, h6⟩ := wantO_snd _ _ _ _ _ _ hw h3
        refine ⟨h5, (h2.and h4).mono fun k hk => ?_⟩
        simp only [opsA, h6, hk.2]
        exact hk.1
      · cases h
    · rename_i st1 hw
      obtain ⟨h1, h2⟩ := opsO_snd ops l _ _ _ a st' h hc
      obtain ⟨h5, h6⟩ := wantO_snd _ _ _ _ _ _ hw h1
      refine ⟨h5, h2.mono fun k hk => ?_⟩
      simp only [opsA, h6]
      exact hk
    · cases h

theorem passO_snd (ops : Array Oper) : ∀ (l : List Oper) (env : List AV) (ms : List Hp) (k0 : Nat) (hp : Hp) (st : St),
    Snd (passO C ro ops l env ms k0 hp st) st fun a => (Ev fun k => passA C (ai C k) ops l env ms k0 hp = some a) ∧ ∀ t, t ∈ a.1 → t.wt = true → t.imp = false → still C t.x t.o = true ∧ Ev fun k => ∃ h0, opA C (ai C k) t.x t.o h0 = some (t.v, h0)
  | [], env, ms, k0, hp, st => fun a st' h hc => by
    cases h
    exact ⟨hc, Ev.of fun _ => rfl, fun t ht => by cases ht⟩
  | o :: l, env, ms, k0, hp, st => fun a st' h hc => by
    unfold passO at h
    split at h
    · rename_i st1 hw
      split at h
      · rename_i v hp1 st2 ho
        split at h
        · rename_i hs
          simp only [Option.map_eq_some_iff, Prod.mk.injEq] at h
          obtain ⟨⟨r, st3⟩, h, rfl, rfl⟩ := h
          obtain ⟨h1, h2, h7⟩ := passO_snd ops l _ _ _ _ _ r _ h hc
          obtain ⟨h3, h4⟩ := opO_snd hro _ _ _ _ _ _ ho h1
          obtain ⟨h5, h6⟩ := wantO_snd _ _ _ _ _ _ hw h3
          refine ⟨h5, (h2.and h4).mono fun k hk => ?_, fun t ht => ?_⟩
          · simp only [passA, h6, hk.2, hs, if_true, hk.1, Option.map_some]
          · rcases List.mem_cons.1 ht with rfl | ht
            · exact fun _ _ => ⟨hs, h4.mono fun k hk => ⟨hp, by rw [hk]; rw [still_hp hs hk]⟩⟩
            · exact h7 t ht
        · rename_i hs
          simp only [Option.map_eq_some_iff, Prod.mk.injEq] at h
          obtain ⟨⟨r, st3⟩, h, rfl, rfl⟩ := h
          obtain ⟨h1, h2, h7⟩ := passO_snd ops l _ _ _ _ _ r _ h hc
          obtain ⟨h3, h4⟩ := opO_snd hro _ _ _ _ _ _ ho h1
          obtain ⟨h5, h6⟩ := wantO_snd _ _ _ _ _ _ hw h3
          refine ⟨h5, (h2.and h4).mono fun k hk => ?_, fun t ht => ?_⟩
          · simp only [passA, h6, hk.2]
            rw [if_neg hs, hk.1]
            rfl
          · rcases List.mem_cons.1 ht with rfl | ht
            · exact fun _ hi => by cases hi
            · exact h7 t ht
      · cases h
    · rename_i st1 hw
      simp only [Option.map_eq_some_iff, Prod.mk.injEq] at h
      obtain ⟨⟨r, st3⟩, h, rfl, rfl⟩ := h
      obtain ⟨h1, h2, h7⟩ := passO_snd ops l _ _ _ _ _ r _ h hc
      obtain ⟨h5, h6⟩ := wantO_snd _ _ _ _ _ _ hw h1
      refine ⟨h5, h2.mono fun k hk => ?_, fun t ht => ?_⟩
      · simp only [passA, h6, hk, Option.map_some]
      · rcases List.mem_cons.1 ht with rfl | ht
        · exact fun hi => by cases hi
        · exact h7 t ht
    · cases h

omit hro in
theorem memFree_ok {rec : Rec} {x : List AV} {o : Oper} {v : AV} {h0 h0' : Hp} (hm : memFree C x o = true) (h : opA C rec x o h0 = some (v, h0')) (h2 : Hp) : opA C rec x o h2 = some (v, h2) := by
  unfold memFree at hm
  unfold opA at h ⊢
  dsimp only at h ⊢
  cases hop : o.op <;> rw [hop] at h hm <;> simp only [reduceCtorEq, Bool.false_eq_true] at h hm
  case move y => dsimp only; rw [settle_none _ _ hm] at h ⊢; cases h; rfl
  case assign y => dsimp only; rw [settle_none _ _ hm] at h ⊢; cases h; rfl
  case call c =>
    obtain ⟨callee, args, ats⟩ := c
    cases callee with
    | value f => simp at hm
    | invoke rv name => cases h
    | builtin b =>
      cases b <;> simp only [reduceCtorEq, Bool.false_eq_true] at h hm
      all_goals
      dsimp only
      split at h
      · rename_i heq
        simp only [Option.map_eq_some_iff, Prod.mk.injEq] at h
        obtain ⟨_, h1, rfl, _⟩ := h
        simp [heq, h1]
      · cases h
  case makeFunc fn first cap =>
    cases fn <;> simp only [reduceCtorEq] at h
    dsimp only
    split at h
    · rename_i hf; cases h; rw [if_pos hf]
    · cases h
  all_goals first
    | (simp only [Option.map_eq_some_iff, Prod.mk.injEq] at h; obtain ⟨_, h1, rfl, _⟩ := h; simp [h1]; done)
    | (dsimp only; split at h <;> first | (rename_i heq; cases h; simp [heq]; done) | (rename_i heq; simp only [Option.map_eq_some_iff, Prod.mk.injEq] at h; obtain ⟨_, h1, rfl, _⟩ := h; simp [heq, h1]; done) | (cases h; done))

omit hro in
theorem entsP1_ok {b : List Nat} {ts : List Ent} {t : Ent} {i : Nat} : ∀ {l : List (Hp × Nat)}, AllP (entsP1 C b ts t i l) → ∀ hp k, (hp, k) ∈ l → placed b ts i k = true ∨ OpH C t.x t.o hp t.v hp
  | [], _, hp, k, h => by cases h
  | (hp1, k1) :: l, hc, hp, k, h => by
    unfold entsP1 at hc
    split at hc
    · rename_i hpl
      rcases List.mem_cons.1 h with h | h
      · cases h; exact .inl hpl
      · exact entsP1_ok hc hp k h
    · rcases List.mem_cons.1 h with h | h
      · cases h; exact .inr hc.1
      · exact entsP1_ok hc.2 hp k h
omit hro in
theorem entsP_ok {b : List Nat} {ts : List Ent} {ms : List Hp} : ∀ {l : List (Ent × Nat)}, AllP (entsP C b ts ms l) → ∀ t i, (t, i) ∈ l → t.imp = true ∨ t.wt = false ∨ memFree C t.x t.o = true ∨ ∀ hp k, (hp, k) ∈ ms.zipIdx → placed b ts i k = true ∨ OpH C t.x t.o hp t.v hp
  | [], _, t, i, h => by cases h
  | (t1, i1) :: l, hc, t, i, h => by
    unfold entsP at hc
    split at hc
    · rename_i hpl
      rcases List.mem_cons.1 h with h | h
      · cases h
        simp only [Bool.or_eq_true, Bool.not_eq_true'] at hpl
        rcases hpl with (hpl | hpl) | hpl
        · exact .inl hpl
        · exact .inr (.inl hpl)
        · exact .inr (.inr (.inl hpl))
      · exact entsP_ok hc t i h
    · obtain ⟨h1, h2⟩ := allP_append hc
      rcases List.mem_cons.1 h with h | h
      · cases h; exact .inr (.inr (.inr fun hp k hm => entsP1_ok h1 hp k hm))
      · exact entsP_ok h2 t i h

omit hro in
theorem entsA_ok {b : List Nat} {ts : List Ent} {ms : List Hp} (ha : entsA b ts ms = true) (hc : AllP (entsP C b ts ms ts.zipIdx)) {rec : Rec}
    (ht : ∀ t, t ∈ ts → t.wt = true → t.imp = false → still C t.x t.o = true ∧ ∃ h0, opA C rec t.x t.o h0 = some (t.v, h0)) : entsOk C rec b ts ms = true := by
  unfold entsA at ha
  unfold entsOk
  simp only [Bool.and_eq_true] at ha ⊢
  refine ⟨ha, List.all_eq_true.2 fun ⟨t, i⟩ hm => ?_⟩
  simp only [Bool.or_eq_true, Bool.not_eq_true']
  have hmem : t ∈ ts := by
    obtain ⟨_, _, h3⟩ := List.mem_zipIdx hm
    rw [h3]
    exact List.getElem_mem _
  cases hi : t.imp with
  | true => exact .inl (.inl rfl)
  | false =>
  cases hw : t.wt with
  | false => exact .inl (.inr rfl)
  | true =>
  refine .inr (List.all_eq_true.2 fun ⟨hp, k⟩ hk => ?_)
  obtain ⟨hst, h0, hop⟩ := ht t hmem hw hi
  simp only [Bool.or_eq_true]
  have fin : opA C rec t.x t.o hp = some (t.v, hp) → (match opA C rec t.x t.o hp with | some (v, _) => v.beq t.v | none => false) = true := fun h => by
    rw [h]
    exact AV.beq_refl _
  rcases entsP_ok hc t i hm with h | h | h | h
  · rw [hi] at h; cases h
  · rw [hw] at h; cases h
  · exact .inr (fin (memFree_ok h hop hp))
  · rcases h hp k hk with h | h
    · exact .inl h
    · refine .inr (fin ?_)
      rw [opA_rec]
      · exact h
      · intro f args ats ho
        unfold still at hst
        rw [ho] at hst
        cases hst

theorem regO_snd (ops : Array Oper) (env : List AV) (hp : Hp) (st : St) : Snd (regO C ro ops env hp st) st fun a => Ev fun k => regD C (ai C k) ops env hp = some a := by
  intro a st' h hc
  unfold regO at h
  split at h
  case isFalse => cases h
  rename_i hord
  split at h
  case h_2 => cases h
  rename_i ts env1 ms hp1 st1 hpass
  split at h
  case isFalse => cases h
  rename_i hents
  cases h
  obtain ⟨h1, h2⟩ := allP_append hc
  obtain ⟨h3, h4, h5⟩ := passO_snd hro ops _ _ _ _ _ _ _ _ hpass h2
  refine ⟨h3, ?_⟩
  have hall : Ev fun k => ∀ t, t ∈ ts → t.wt = true → t.imp = false → still C t.x t.o = true ∧ ∃ h0, opA C (ai C k) t.x t.o h0 = some (t.v, h0) := by
    clear hpass h4 hents hc h1 h2
    dsimp only at h5
    induction ts with
    | nil => exact Ev.of fun _ t ht => by cases ht
    | cons t0 ts ih =>
      have ih := ih (fun t ht => h5 t (List.mem_cons_of_mem _ ht))
      by_cases hw : t0.wt = true ∧ t0.imp = false
      · obtain ⟨g1, g2⟩ := h5 t0 List.mem_cons_self hw.1 hw.2
        refine (ih.and g2).mono fun k hk t ht => ?_
        rcases List.mem_cons.1 ht with rfl | ht
        · exact fun _ _ => ⟨g1, hk.2⟩
        · exact hk.1 t ht
      · refine ih.mono fun k hk t ht => ?_
        rcases List.mem_cons.1 ht with rfl | ht
        · exact fun a b => absurd ⟨a, b⟩ hw
        · exact hk t ht
  refine (h4.and hall).mono fun k hk => ?_
  unfold regD
  simp only [hord, if_true, hk.1]
  rw [if_pos (entsA_ok hents h1 hk.2)]

theorem askLoop_snd (ok : Option (List Nat)) (km : List (Nat × List Nat)) (keep : List Nat) (n t l : Nat) (b : Code) (env : List AV) (hp : Hp) (st : St) : Snd (askLoop C ro ok km keep n t l b env hp st) st fun a => LoopR C ok km keep n t l b env hp a.1 a.2.1 a.2.2 := by
  intro a st' h hc
  have hcs := ask_cs st
  unfold askLoop at h
  split at h
  · rename_i x env' hp' st1 ha
    rw [ha] at hcs
    cases h
    exact ⟨hcs ▸ hc.2, hc.1⟩
  · rename_i st1 ha
    rw [ha] at hcs
    have := hro.loop ok km keep n t l b env hp st1 a st' h hc
    exact ⟨hcs ▸ this.1, this.2⟩
  · cases h

theorem cdO_snd (km : List (Nat × List Nat)) : ∀ (c : Code) (env : List AV) (hp : Hp) (st : St), Snd (cdO C ro km c env hp st) st fun a => Ev fun k => cd C (ai C k) km c env hp = some a := by
  intro c
  induction c with
  | skip =>
    intro env hp st a st' h hc
    cases h
    exact ⟨hc, Ev.of fun _ => rfl⟩
  | region id ops draw =>
    intro env hp st a st' h hc
    simp only [cdO, Option.map_eq_some_iff, Prod.mk.injEq] at h
    obtain ⟨⟨r, st1⟩, h, rfl, rfl⟩ := h
    cases draw with
    | true =>
      obtain ⟨h1, h2⟩ := regO_snd hro ops env hp st r _ h hc
      exact ⟨h1, h2.mono fun k hk => by simp only [cd, if_true, hk, Option.map_some]⟩
    | false =>
      obtain ⟨h1, h2⟩ := opsO_snd hro ops _ env hp st r _ h hc
      exact ⟨h1, h2.mono fun k hk => by simp only [cd, Bool.false_eq_true, if_false, hk, Option.map_some]⟩
  | seq c d ihc ihd =>
    intro env hp st a st' h hc
    simp only [cdO] at h
    split at h
    · rename_i env1 hp1 st1 h1
      obtain ⟨g1, g2⟩ := ihd env1 hp1 st1 a st' h hc
      obtain ⟨g3, g4⟩ := ihc env hp st _ _ h1 g1
      exact ⟨g3, (g2.and g4).mono fun k hk => by simp only [cd, hk.2]; exact hk.1⟩
    · rename_i hne
      obtain ⟨g3, g4⟩ := ihc env hp st _ _ h hc
      refine ⟨g3, g4.mono fun k hk => ?_⟩
      simp only [cd, hk]
      obtain ⟨x, env1, hp1⟩ := a
      cases x with
      | normal => exact absurd h (hne _ _ _)
      | exit id => rfl
      | ret => rfl
  | cond c t f iht ihf =>
    intro env hp st a st' h hc
    have hcs := ask_cs st
    simp only [cdO] at h
    split at h
    · rename_i b st1 ha
      rw [ha] at hcs
      cases b with
      | true =>
        simp only [if_true] at h
        obtain ⟨g1, g2⟩ := iht _ _ _ _ _ h hc
        exact ⟨hcs ▸ g1.2, g2.mono fun k hk => by simp only [cd, g1.1, if_true]; exact hk⟩
      | false =>
        simp only [Bool.false_eq_true, if_false] at h
        obtain ⟨g1, g2⟩ := ihf _ _ _ _ _ h hc
        exact ⟨hcs ▸ g1.2, g2.mono fun k hk => by simp only [cd, g1.1, Bool.false_eq_true, if_false]; exact hk⟩
    · rename_i st1 ha
      rw [ha] at hcs
      split at h
      · rename_i b hb
        cases b with
        | true =>
          simp only [if_true] at h
          obtain ⟨g1, g2⟩ := iht _ _ _ _ _ h hc
          exact ⟨hcs ▸ g1, g2.mono fun k hk => by simp only [cd, hb, if_true]; exact hk⟩
        | false =>
          simp only [Bool.false_eq_true, if_false] at h
          obtain ⟨g1, g2⟩ := ihf _ _ _ _ _ h hc
          exact ⟨hcs ▸ g1, g2.mono fun k hk => by simp only [cd, hb, Bool.false_eq_true, if_false]; exact hk⟩
      · cases h
    · cases h
  | block id c ih =>
    intro env hp st a st' h hc
    have fin : ∀ (r : Option ((AX × List AV × Hp) × St)) (F : Nat → Option (AX × List AV × Hp)), (match r with
        | some ((.exit j, env, hp), st) => if j = id then some ((.normal, env, hp), st) else some ((.exit j, env, hp), st)
        | r => r) = some (a, st') → Snd r st (fun a => Ev fun k => F k = some a) → AllP st.cs ∧ Ev fun k => (match F k with
        | some (.exit j, env, hp) => if j = id then some (.normal, env, hp) else some (.exit j, env, hp)
        | r => r) = some a := by
      intro r F hr hs
      cases r with
      | none => cases hr
      | some r =>
        obtain ⟨⟨x, env1, hp1⟩, st1⟩ := r
        cases x with
        | normal =>
          cases hr
          obtain ⟨g1, g2⟩ := hs _ _ rfl hc
          exact ⟨g1, g2.mono fun k hk => by simp only [hk]⟩
        | ret =>
          cases hr
          obtain ⟨g1, g2⟩ := hs _ _ rfl hc
          exact ⟨g1, g2.mono fun k hk => by simp only [hk]⟩
        | exit j =>
          dsimp only at hr
          split at hr
          · rename_i hj
            cases hr
            obtain ⟨g1, g2⟩ := hs _ _ rfl hc
            exact ⟨g1, g2.mono fun k hk => by simp only [hk]; rw [if_pos hj]⟩
          · rename_i hj
            cases hr
            obtain ⟨g1, g2⟩ := hs _ _ rfl hc
            exact ⟨g1, g2.mono fun k hk => by simp only [hk]; rw [if_neg hj]⟩
    simp only [cdO] at h
    simp only [cd]
    cases c
    case loop b =>
      exact fin _ _ h (askLoop_snd hro _ _ _ _ _ _ _ _ _ _)
    all_goals exact fin _ _ h (ih env hp st)
  | loop c ih => intro env hp st a st' h hc; simp only [cdO] at h; cases h
  | rangeFunc f ps assign body iha ihb =>
    intro env hp st a st' h hc
    simp only [cdO] at h
    split at h
    · rename_i g cap hf
      split at h
      · rename_i v hp1 st1 hcall
        split at h
        · rename_i r hr
          split at h
          · cases h
          · rename_i hbusy
            have key : st1 = st' ∧ (match r.pending with
                | none => some (AX.normal, env, { hp1 with loops := hp1.loops.set hp.loops.length { r with state := .exhausted } })
                | some .ret => some (.ret, env, { hp1 with loops := hp1.loops.set hp.loops.length { r with state := .exhausted } })
                | some (.exit id) => some (.exit id, env, { hp1 with loops := hp1.loops.set hp.loops.length { r with state := .exhausted } })
                | _ => none) = some a := by
              split at h
              · rename_i hp0; cases h; exact ⟨rfl, rfl⟩
              · rename_i hp0; cases h; exact ⟨rfl, rfl⟩
              · rename_i hp0; cases h; exact ⟨rfl, rfl⟩
              · cases h
            obtain ⟨rfl, key⟩ := key
            obtain ⟨g1, g2⟩ := doCall_snd hro _ _ _ _ _ _ hcall hc
            refine ⟨g1, g2.mono fun k hk => ?_⟩
            simp only [cd, rangeA, hf]
            rw [hk]
            simp only [hr]
            rw [if_neg hbusy]
            exact key
        · cases h
      · cases h
    · cases h
  | exit id =>
    intro env hp st a st' h hc
    cases h
    exact ⟨hc, Ev.of fun _ => rfl⟩
  | ret =>
    intro env hp st a st' h hc
    cases h
    exact ⟨hc, Ev.of fun _ => rfl⟩
  | scope c ih =>
    intro env hp st a st' h hc
    simp only [cdO] at h
    obtain ⟨g1, g2⟩ := ih env hp st a st' h hc
    exact ⟨g1, g2.mono fun k hk => by simp only [cd]; exact hk⟩
  | label l =>
    intro env hp st a st' h hc
    cases h
    exact ⟨hc, Ev.of fun _ => rfl⟩
  | goto l => intro env hp st a st' h hc; simp only [cdO] at h; cases h
  | refuse s => intro env hp st a st' h hc; simp only [cdO] at h; cases h

theorem loopStepO_snd (ok : Option (List Nat)) (km : List (Nat × List Nat)) (keep : List Nat) (n t l : Nat) (b : Code) (env : List AV) (hp : Hp) (st : St) : Snd (loopStepO C ro ok km keep n t l b env hp st) st fun a => LoopR C ok km keep n t l b env hp a.1 a.2.1 a.2.2 := by
  intro a st' h hc
  unfold loopStepO at h
  split at h
  case h_2 => cases h
  rename_i hp1 htr
  split at h
  · rename_i env1 hp2 st1 hcd
    obtain ⟨g1, g2⟩ := askLoop_snd hro _ _ _ _ _ _ _ _ _ _ _ _ h hc
    obtain ⟨g3, g4⟩ := cdO_snd hro _ _ _ _ _ _ _ hcd g1
    refine ⟨g3, (g2.and g4).succ fun k hk => ?_⟩
    show outM _ _ _ _ (loopStep C (ai C k) _ _ _ _ _ _ _ _) = _
    unfold loopStep
    simp only [htr, hk.2]
    exact hk.1
  · rename_i x env1 hp2 st1 hne hcd
    cases h
    obtain ⟨g3, g4⟩ := cdO_snd hro _ _ _ _ _ _ _ hcd hc
    refine ⟨g3, g4.succ fun k hk => ?_⟩
    show outM _ _ _ _ (loopStep C (ai C k) _ _ _ _ _ _ _ _) = _
    unfold loopStep
    simp only [htr, hk]
    cases x with
    | normal => exact (hne rfl).elim
    | exit id => rfl
    | ret => rfl
  · cases h

theorem roundStepO_snd (l : Nat) (args : List AV) (hp : Hp) (st : St) : Snd (roundStepO C ro l args hp st) st fun a => RoundE C l args hp a.1 a.2 := by
  intro a st' h hc
  unfold roundStepO at h
  split at h
  case h_2 => cases h
  rename_i r hr
  split at h
  case isFalse => cases h
  rename_i h0
  split at h
  case h_2 => cases h
  rename_i env1 hp1 st1 hcd
  split at h
  case h_2 => cases h
  rename_i r1 hr1
  split at h
  case isFalse => cases h
  rename_i h01
  split at h
  case h_2 => cases h
  rename_i x env2 hp2 st2 hcd2
  split at h
  case h_2 => cases h
  rename_i r2 hr2
  split at h
  · cases h
  · rename_i hit
    cases h
    obtain ⟨g1, g2⟩ := cdO_snd hro _ _ _ _ _ _ _ hcd2 hc
    obtain ⟨g3, g4⟩ := cdO_snd hro _ _ _ _ _ _ _ hcd g1
    refine ⟨g3, (g2.and g4).succ fun k hk => ?_⟩
    show roundStep C (ai C k) _ _ _ = _
    unfold roundStep
    simp only [hr, if_pos h0, hk.2, hr1, if_pos h01, hk.1, hr2, if_neg hit]
    rfl

theorem bodyO_snd (f : FuncId) (args : List AV) (hp : Hp) (st : St) : Snd (bodyO C ro f args hp st) st fun a => Ev fun k => bodyStep C (ai C k) f args hp = some a := by
  intro a st' h hc
  unfold bodyO at h
  split at h
  case h_2 => cases h
  rename_i fn hfn
  split at h
  case h_2 => cases h
  rename_i c hb
  split at h
  · cases h
  · rename_i hn
    split at h
    · cases h
    · rename_i x env1 hp1 st1 hne hcd
      simp only [Option.map_eq_some_iff, Prod.mk.injEq] at h
      obtain ⟨l, hl, rfl, rfl⟩ := h
      obtain ⟨g3, g4⟩ := cdO_snd hro _ _ _ _ _ _ _ hcd hc
      refine ⟨g3, g4.mono fun k hk => ?_⟩
      unfold bodyStep
      simp only [hfn, hb]
      rw [if_neg hn, hk]
      cases x with
      | exit id => exact (hne id rfl).elim
      | normal => simp only [hl, Option.map_some]
      | ret => simp only [hl, Option.map_some]
    · cases h

theorem coreO_snd (f : FuncId) (args : List AV) (hp : Hp) (st : St) : Snd (coreO C ro f args hp st) st fun a => CoreE C f args hp a.1 a.2 := by
  intro a st' h hc
  unfold coreO at h
  split at h
  case h_2 => cases h
  rename_i r h1 st1 hb
  simp only [Option.map_eq_some_iff, Prod.mk.injEq] at h
  obtain ⟨x, hg, rfl, rfl⟩ := h
  obtain ⟨g3, g4⟩ := bodyO_snd hro _ _ _ _ _ _ hb hc
  refine ⟨g3, g4.mono fun k hk => ?_⟩
  unfold coreStep
  simp only [hk]
  exact hg

theorem callStepO_snd (f : FuncId) (args : List AV) (hp : Hp) (st : St) : Snd (callStepO C ro f args hp st) st fun a => CallE C f args hp a.1 a.2 := by
  intro a st' h hc
  unfold callStepO at h
  split at h
  · rename_i F hF
    simp only [Option.map_eq_some_iff, Prod.mk.injEq] at h
    obtain ⟨x, hx, rfl, rfl⟩ := h
    refine ⟨hc, 1, fun k hk => ?_⟩
    obtain ⟨j, rfl⟩ : ∃ j, k = j + 1 := ⟨k - 1, by omega⟩
    show callStep C (ai C j) f args hp = _
    unfold callStep
    simp only [hF]
    exact hx
  · rename_i hp0
    dsimp only at h
    split at h
    case isFalse => cases h
    rename_i hs
    split at h
    case h_2 => cases h
    rename_i r h1 st1 hcore
    cases h
    obtain ⟨g3, g4⟩ := coreO_snd hro _ _ _ _ _ _ hcore hc
    exact ⟨g3, callE_of_core hp0 hs g4⟩
end

theorem aiO_snd : ∀ k, RecS C (aiO C k)
  | 0 => ⟨fun _ _ _ _ _ _ h => (by cases h), fun _ _ _ _ _ _ _ _ _ _ _ _ h => (by cases h), fun _ _ _ _ _ _ h => (by cases h)⟩
  | k + 1 => have ih := aiO_snd k; ⟨callStepO_snd ih, loopStepO_snd ih, roundStepO_snd ih⟩

/-! For use -/

/-- The result, and what it rests on; all answers were asked for. -/
def told {α : Type} (r : Option (α × St)) : Option (α × List Prop) :=
  match r with
  | some (a, ⟨_, [], cs⟩) => some (a, cs)
  | _ => none

theorem told_some {α : Type} {r : Option (α × St)} {a : α} {cs : List Prop} (h : told r = some (a, cs)) : ∃ n, r = some (a, ⟨n, [], cs⟩) := by
  unfold told at h
  split at h
  · cases h
    exact ⟨_, rfl⟩
  · cases h

theorem core_of {C : Cfg} (k : Nat) {f : FuncId} {args : List AV} {hp : Hp} (os : List (Nat × Or)) {r : AV} {hp' : Hp} (cs : List Prop) (h : told (coreO C (aiO C k) f args hp ⟨0, os, []⟩) = some ((r, hp'), cs)) (hc : AllP cs) : CoreE C f args hp r hp' := by
  obtain ⟨n, h⟩ := told_some h
  exact (coreO_snd (aiO_snd k) f args hp _ _ _ h hc).2

/-- The loop of a block. -/
def blockIn (id : Nat) : Code → Option Code
  | .seq a b => match blockIn id a with | some c => some c | none => blockIn id b
  | .cond _ a b => match blockIn id a with | some c => some c | none => blockIn id b
  | .block i c => if Nat.beq i id then some c else blockIn id c
  | .loop b => blockIn id b
  | .rangeFunc _ _ a b => match blockIn id a with | some c => some c | none => blockIn id b
  | .scope c => blockIn id c
  | _ => none
def loopOf (P : Program) (f : FuncId) (id : Nat) : Code :=
  match P.funcs[f]? with
  | some fn => match fn.body with
    | some c => match blockIn id c with
      | some (.loop b) => b
      | _ => .skip
    | none => .skip
  | none => .skip

/-- Slots, of so many, by their numbers. -/
def mkEnv (n : Nat) (l : List (Nat × AV)) : List AV := l.foldl (fun env p => env.set p.1 p.2) (List.replicate n .undef)

def LoopE (C : Cfg) (f : FuncId) (id n t l : Nat) (env : List AV) (hp : Hp) (x : AX) (env' : List AV) (hp' : Hp) : Prop :=
  LoopR C (outK (C.km f) id) (C.km f) (keepOf (C.km f) id) n t l (loopOf C.P f id) env hp x env' hp'

theorem loop_of {C : Cfg} (k : Nat) {f : FuncId} {id n t l : Nat} {env : List AV} {hp : Hp} (os : List (Nat × Or)) {x : AX} {env' : List AV} {hp' : Hp} (cs : List Prop)
    (h : told (loopStepO C (aiO C k) (outK (C.km f) id) (C.km f) (keepOf (C.km f) id) n t l (loopOf C.P f id) env hp ⟨0, os, []⟩) = some ((x, env', hp'), cs)) (hc : AllP cs) : LoopE C f id n t l env hp x env' hp' := by
  obtain ⟨m, h⟩ := told_some h
  exact (loopStepO_snd (aiO_snd k) _ _ _ _ _ _ _ _ _ _ _ _ h hc).2

theorem call_of_core {C : Cfg} {g : FuncId} {as : List AV} {hp : Hp} (r : AV) (h1 : Hp) {r' : AV} {hp' : Hp} (hp0 : C.prim g = none) (hs : (selOf hp [] (handed C g as)).ok hp (handed C g as) = true)
    (h : CoreE C g ((selOf hp [] (handed C g as)).ren (handed C g as)) ((selOf hp [] (handed C g as)).hp hp) r h1) (he : embed (selOf hp [] (handed C g as)) hp r h1 = (r', hp')) : CallE C g as hp r' hp' := by
  have := callE_of_core hp0 hs h
  rwa [he] at this

end Go.Proofs.YtkddphdhcejdaaaDoor.AI
