/-
  One operation, calls among them; the operations of a region in the text's order.
-/
import Derived.Test.YtkddphdhcejdaaaDoorAiMa
import Derived.TacticsIn
import Derived.LoopNIn
set_option linter.unusedVariables false
set_option linter.unusedSimpArgs false
namespace Go.Proofs.YtkddphdhcejdaaaDoor.AI
open Go.RowKit
variable {C : Cfg} {B : Nat} {e : E} {hp : Hp}

/-- The fence without bounds, in a round or not. -/
def FW (rd : Option Nat) : Fence := { Fence.wide with round := rd }
@[simp] theorem FW_fn (rd : Option Nat) (f : FuncId) : (FW rd).fn f = True := rfl
@[simp] theorem FW_depth (rd : Option Nat) : (FW rd).depth = none := rfl
@[simp] theorem FW_round (rd : Option Nat) : (FW rd).round = rd := rfl

/-- A function that has a body. -/
def CanEnter (P : Program) (f : FuncId) : Prop := ∃ fn, P.funcs[f]? = some fn ∧ fn.body.isNone = false ∧ (fn.name == "runtime.NumGoroutine") = false

/-- What a call comes to. -/
def Post (B : Nat) (e : E) (r : AV) (hp' : Hp) : Ending → World → Prop :=
  fun en w' => ∃ e' v, e'.w = w' ∧ en = .returned v ∧ Rd e' r v ∧ Sim B e' hp' ∧ Adv e e'

def exOf : AX → Exit
  | .normal => .normal
  | .exit id => .exit id
  | .ret => .ret

/-- What the loop's code comes to. -/
def CodePost (B : Nat) (e : E) (x : AX) (env' : List AV) (hp' : Hp) (M : List Nat) : Exit → Act → World → Prop :=
  fun ex a' w' => ∃ (e' : E) (M' : List Nat), e'.w = w' ∧ ex = exOf x ∧ EnvOk e' env' a'.tmps ∧ Sim B e' hp' ∧ Adv e e' ∧
    a'.defers = M'.map (fun r => { target := .collected r, args := #[] }) ∧ M'.Nodup ∧ (∀ r, r ∈ M' → w'.heap[r]? = some (.deferred (some [])) ∧ (r ∈ M ∨ e.w.heap.size ≤ r))

/-- Of the tie, what stays at a loop's head. -/
def E.restrict (e : E) (n t l : Nat) : E :=
  { e with β := fun b => if b < n then e.β b else none, τ := fun k => if k < t then e.τ k else none, lp := fun k => if k < l then e.lp k else none }

/-- The marks of ranges over functions that an activation has left. -/
def MarksOk (w : World) (a : Act) (M : List Nat) : Prop :=
  a.defers = M.map (fun r => { target := .collected r, args := #[] }) ∧ M.Nodup ∧ ∀ r, r ∈ M → w.heap[r]? = some (.deferred (some []))

/-- The round's own loop, if it is a round. -/
def RdOk (e : E) (rd : Option Nat) : Prop := ∀ k, rd = some k → ∃ r : Loop, e.w.heap[k]? = some (Obj.loop r)

structure RecOk (C : Cfg) (B : Nat) (fuel : Nat) (rec : Rec) : Prop where
  call : ∀ f args hp r hp' e (vs : Array Value), rec.call f args hp = some (r, hp') → Sim B e hp → GlOk C e → CellsRd e args vs.toList →
    CanEnter C.P f ∧ CallsIn Fence.wide 0 C.P f vs e.w (Post B e r hp')
  loop : ∀ km keep n t l body env hp x env' hp' e a M rd, rec.loop km keep n t l body env hp = some (x, env', hp') → Sim B e hp → GlOk C e → EnvOk e env a.tmps → MarksOk e.w a M → RdOk (e.restrict n t l) rd →
    Code.roundsIn (FW rd) 0 C.P body (CodePost B (e.restrict n t l) x env' hp' M) fuel a e.w
  round : ∀ l args hp r hp' e (vs : Array Value) k, rec.round l args hp = some (r, hp') → Sim B e hp → GlOk C e → CellsRd e args vs.toList → e.lp l = some k →
    ∃ fn tmps assign body, (Instr.yield k vs).run C.P e.w = .ok (.round k fn tmps assign body) e.w ∧ RoundIn Fence.wide 0 C.P k fn tmps assign body e.w (Post B e r hp')

theorem semAt_exec (rd : Option Nat) (ρ : Operand → Value) (o : Oper) (h : ∀ c, o.op ≠ .defer c) : Oper.semAt rd ρ o = execOp ρ o := by
  cases rd with
  | none => exact Oper.semAt_none ρ o
  | some l => exact Oper.semAt_some l ρ o h

theorem operands_rd (hg : GlOk C e) {env : List AV} {a : Act} (he : EnvOk e env a.tmps) (l : List Operand) : CellsRd e (l.map (ev C env)) (l.map a.eval) :=
  ⟨by simp, fun i x v hx hv => by
    rw [List.getElem?_map] at hx hv
    cases ho : l[i]? with
    | none => simp [ho] at hx
    | some o =>
      simp [ho] at hx hv
      subst hx hv
      exact ev_rd hg he o⟩

theorem parts_rd (hg : GlOk C e) {env : List AV} {a : Act} (he : EnvOk e env a.tmps) (l : List (Nat × Operand)) : PartsRd e (l.map fun (i, x) => (i, ev C env x)) (l.map fun (i, x) => (i, a.eval x)) :=
  ⟨by simp, fun i p q hp hq => by
    rw [List.getElem?_map] at hp hq
    cases ho : l[i]? with
    | none => simp [ho] at hp
    | some o =>
      simp [ho] at hp hq
      subst hp hq
      exact ⟨rfl, ev_rd hg he o.2⟩⟩

theorem opt_rd (hg : GlOk C e) {env : List AV} {a : Act} (he : EnvOk e env a.tmps) (o : Option Operand) : (∀ x, o.map (ev C env) = some x → ∃ v, o.map a.eval = some v ∧ Rd e x v) ∧ (o.map (ev C env) = none → o.map a.eval = none) := by
  cases o with
  | none => exact ⟨fun x h => (by cases h), fun _ => rfl⟩
  | some o => exact ⟨fun x h => (by cases h; exact ⟨_, rfl, ev_rd hg he o⟩), fun h => (by cases h)⟩

theorem callFunc_run {P : Program} {f : FuncId} (h : CanEnter P f) (args : Array Value) (w : World) : (callFunc f args).run P w = .ok (.enter f args) w := by
  obtain ⟨fn, h1, h2, h3⟩ := h
  have h2' : fn.body.isNone ≠ true := by simp [h2]
  simp only [callFunc, Sem.run_bind, run_program, Result.andThen_ok, h1, h3, Bool.false_eq_true, if_false]
  rw [if_neg h2']
  rfl

/-- What an operation that makes no call comes to. -/
def OpRes (B : Nat) (e : E) (r : AV) (hp' : Hp) (R : Result Next) : Prop := ∃ e' nx v, R = .ok nx e'.w ∧ (nx = .value v ∨ (nx = .skip ∧ v = undef)) ∧ Rd e' r v ∧ Sim B e' hp' ∧ Adv e e'

theorem OpRes.pure (h : Sim B e hp) {r : AV} {R : Result Next} {v : Value} (hR : R = .ok (.value v) e.w) (hr : Rd e r v) : OpRes B e r hp R := ⟨e, _, v, hR, .inl rfl, hr, h, .refl e⟩

/-- One operation. -/
theorem opA_ok {fuel : Nat} {rec : Rec} (hrec : RecOk C B fuel rec) (rd : Option Nat) {env : List AV} {a : Act} {o : Oper} {r : AV} {hp' : Hp} (hx : opA C rec env o hp = some (r, hp')) (h : Sim B e hp) (hg : GlOk C e) (he : EnvOk e env a.tmps)
    (next : Act → World → Prop) (Q : Exit → Act → World → Prop) (hnext : ∀ e' v, Rd e' r v → Sim B e' hp' → Adv e e' → next (a.put o.dst v) e'.w) : o.wpIn (FW rd) 0 C.P a e.w next Q := by
  have fin : (∀ c, o.op ≠ .defer c) → OpRes B e r hp' ((execOp a.eval o).run C.P e.w) → o.wpIn (FW rd) 0 C.P a e.w next Q := by
    rintro hd ⟨e', nx, v, hR, hnx, hrd, hsim, hadv⟩
    refine ⟨fun _ _ => trivial, ?_⟩
    rw [FW_round, semAt_exec rd _ _ hd, hR]
    rcases hnx with rfl | ⟨rfl, rfl⟩
    · exact hnext e' v hrd hsim hadv
    · exact hnext e' undef hrd hsim hadv
  have hev := ev_rd hg he
  unfold opA at hx
  dsimp only at hx
  cases hop : o.op <;> rw [hop] at hx <;> simp only [reduceCtorEq] at hx
  case move x =>
    refine fin (by simp [hop]) ?_
    obtain ⟨e', hw, hr, hs, ha⟩ := settle_ok h (hev x)
    simp only [Option.some.injEq] at hx
    rw [hx] at hr hs
    exact ⟨e', _, _, by simp only [execOp, hop, hw]; rfl, .inl rfl, hr, hs, ha⟩
  case assign x =>
    refine fin (by simp [hop]) ?_
    obtain ⟨e', hw, hr, hs, ha⟩ := settle_ok h (hev x)
    simp only [Option.some.injEq] at hx
    rw [hx] at hr hs
    exact ⟨e', _, _, by simp only [execOp, hop, hw]; rfl, .inl rfl, hr, hs, ha⟩
  case pick c x y =>
    refine fin (by simp [hop]) ?_
    split at hx
    case h_2 => cases hx
    rename_i t ht
    have hc := hev c
    rw [ht] at hc
    generalize hcv : a.eval c = cv at hc
    cases hc
    cases hx
    cases t
    · exact .pure h (by simp [execOp, hop, hcv, asBool]) (hev y)
    · exact .pure h (by simp [execOp, hop, hcv, asBool]) (hev x)
  case alloc t =>
    refine fin (by simp [hop]) ?_
    simp only [Option.bind_eq_some_iff] at hx
    obtain ⟨cs, hz, hx⟩ := hx
    obtain ⟨z, rfl, hzr⟩ := run_zeroValue hz
    have hc := ofVal_cells e z
    obtain ⟨e', hw, hr, hs, ha⟩ := newBox_ok h z.cells t hx (by have := hc.1; simpa using this) (fun i x v hx hv => hc.2 i x v hx (by simpa using hv))
    exact ⟨e', _, _, by simp [execOp, hop, Instr.alloc, hzr, newVar, newRow, hw], .inl rfl, hr, hs, ha⟩
  case box t x =>
    refine fin (by simp [hop]) ?_
    split at hx
    case isFalse => cases hx
    have hone : (ev C env x).cells.all (·.one) = true := by
      unfold newBox at hx
      split at hx
      · assumption
      · cases hx
    have hc := (hev x).cellsRd hone
    obtain ⟨e', hw, hr, hs, ha⟩ := newBox_ok h (a.eval x).cells t hx (by have := hc.1; simpa using this) (fun i x v hx hv => hc.2 i x v hx (by simpa using hv))
    exact ⟨e', _, _, by simp [execOp, hop, Instr.box, newVar, newRow, hw], .inl rfl, hr, hs, ha⟩
  case build t ps =>
    refine fin (by simp [hop]) ?_
    simp only [Option.map_eq_some_iff, Prod.mk.injEq] at hx
    obtain ⟨x, hx, rfl, rfl⟩ := hx
    obtain ⟨v, hv, hr⟩ := buildA_ok (C := C) (e := e) (qs := ps.map fun (i, x) => (i, a.eval x)) (by simpa using parts_rd hg he ps.toList) hx
    exact .pure h (by simp [execOp, hop, hv]) hr
  case buildSlice t n ps =>
    refine fin (by simp [hop]) ?_
    obtain ⟨e', v, hv, hr, hs, ha⟩ := buildSliceA_ok (C := C) h (qs := ps.map fun (i, x) => (i, a.eval x)) (by simpa using parts_rd hg he ps.toList) hx
    exact ⟨e', _, v, by simp [execOp, hop, hv], .inl rfl, hr, hs, ha⟩
  case load t x =>
    refine fin (by simp [hop]) ?_
    simp only [Option.map_eq_some_iff, Prod.mk.injEq] at hx
    obtain ⟨x', hx, rfl, rfl⟩ := hx
    obtain ⟨v, hv, hr⟩ := loadA_ok (C := C) h (hev x) hx
    exact .pure h (by simp [execOp, hop, hv]) hr
  case store t x y =>
    refine fin (by simp [hop]) ?_
    simp only [Option.map_eq_some_iff, Prod.mk.injEq] at hx
    obtain ⟨hp1, hx, rfl, rfl⟩ := hx
    obtain ⟨e', hv, hs, ha⟩ := storeA_ok (C := C) h (hev x) (hev y) hx
    exact ⟨e', _, undef, by simp [execOp, hop, hv], .inr ⟨rfl, rfl⟩, .undef _, hs, ha⟩
  case nilCheck x =>
    refine fin (by simp [hop]) ?_
    have hc := hev x
    generalize hxv : a.eval x = xv at hc
    split at hx
    · rename_i heq
      rw [heq] at hc
      cases hx
      cases hc with
      | box _ _ k hb => exact .pure h (v := .pointer (some ⟨k, _, none⟩)) (by simp [execOp, hop, hxv]) (.box _ _ _ hb)
    · rename_i heq
      rw [heq] at hc
      cases hx
      cases hc with
      | elem _ p vf h1 h2 => exact .pure h (v := .pointer (some p)) (by simp [execOp, hop, hxv]) (.elem _ _ _ h1 h2)
    · rename_i heq
      rw [heq] at hc
      cases hx
      cases hc with
      | fn f _ vs h1 h2 => exact .pure h (v := .func (.func _) #[] vs) (by simp [execOp, hop, hxv]) (.fn _ _ _ h1 h2)
    · rename_i heq
      rw [heq] at hc
      cases hx
      cases hc with
      | yield _ k h1 => exact .pure h (v := .func (.yield k) #[] #[]) (by simp [execOp, hop, hxv]) (.yield _ _ h1)
    · rename_i heq
      rw [heq] at hc
      cases hx
      cases hc with
      | errv t u => exact .pure h (v := .iface t u) (by simp [execOp, hop, hxv]) (.errv _ _)
    · cases hx
  case binOp op t x y yt =>
    refine fin (by simp [hop]) ?_
    simp only [Option.map_eq_some_iff, Prod.mk.injEq] at hx
    obtain ⟨x', hx, rfl, rfl⟩ := hx
    obtain ⟨v, hv, hr⟩ := binA_ok (C := C) (hev x) (hev y) x y hx
    refine .pure h ?_ hr
    simp only [execOp, hop]
    rw [Sem.run_bind, hv]
    rfl
  case unOp op t x =>
    refine fin (by simp [hop]) ?_
    simp only [Option.map_eq_some_iff, Prod.mk.injEq] at hx
    obtain ⟨x', hx, rfl, rfl⟩ := hx
    obtain ⟨v, hv, hr⟩ := unA_ok (C := C) (hev x) hx
    exact .pure h (by simp [execOp, hop, hv]) hr
  case convert s d x =>
    refine fin (by simp [hop]) ?_
    simp only [Option.map_eq_some_iff, Prod.mk.injEq] at hx
    obtain ⟨x', hx, rfl, rfl⟩ := hx
    obtain ⟨v, hv, hr⟩ := convA_ok (C := C) (hev x) hx
    exact .pure h (by simp [execOp, hop, hv]) hr
  case makeFunc fn first cap =>
    refine fin (by simp [hop]) ?_
    cases fn <;> simp only [reduceCtorEq] at hx
    split at hx
    case isFalse => cases hx
    rename_i f hfirst
    cases hx
    have h0 : first = #[] := by simpa using hfirst
    have hc := operands_rd hg he cap.toList
    refine .pure h (v := .func (.func f) #[] (cap.map a.eval)) (by simp [execOp, hop, Instr.makeFunc, h0]) (.fn _ _ _ (by simp) (fun i x v hx hv => hc.2 i x v hx (by simpa using hv)))
  case slice t x lo hi mx =>
    refine fin (by simp [hop]) ?_
    simp only [Option.map_eq_some_iff, Prod.mk.injEq] at hx
    obtain ⟨x', hx, rfl, rfl⟩ := hx
    obtain ⟨v, hv, hr⟩ := sliceA_ok (C := C) (hev x) (opt_rd hg he lo).1 (opt_rd hg he lo).2 (opt_rd hg he hi).1 (opt_rd hg he hi).2 (opt_rd hg he mx).2 hx
    exact .pure h (by simp [execOp, hop, hv]) hr
  case fieldAddr s x i =>
    refine fin (by simp [hop]) ?_
    simp only [Option.map_eq_some_iff, Prod.mk.injEq] at hx
    obtain ⟨x', hx, rfl, rfl⟩ := hx
    obtain ⟨v, hv, hr⟩ := fieldAddrA_ok (C := C) (hev x) hx
    exact .pure h (by simp [execOp, hop, hv]) hr
  case field t x i =>
    refine fin (by simp [hop]) ?_
    simp only [Option.map_eq_some_iff, Prod.mk.injEq] at hx
    obtain ⟨x', hx, rfl, rfl⟩ := hx
    obtain ⟨v, hv, hr⟩ := fieldA_ok (C := C) (hev x) hx
    exact .pure h (by simp [execOp, hop, hv]) hr
  case indexAddr t x i =>
    refine fin (by simp [hop]) ?_
    simp only [Option.map_eq_some_iff, Prod.mk.injEq] at hx
    obtain ⟨x', hx, rfl, rfl⟩ := hx
    obtain ⟨v, hv, hr⟩ := indexAddrA_ok (C := C) (hev x) (hev i) hx
    exact .pure h (by simp [execOp, hop, hv]) hr
  case index t x i =>
    refine fin (by simp [hop]) ?_
    simp only [Option.map_eq_some_iff, Prod.mk.injEq] at hx
    obtain ⟨x', hx, rfl, rfl⟩ := hx
    obtain ⟨v, hv, hr⟩ := indexA_ok (C := C) (hev x) (hev i) hx
    exact .pure h (by simp [execOp, hop, hv]) hr
  case extract x i =>
    refine fin (by simp [hop]) ?_
    have hc := hev x
    generalize hxv : a.eval x = xv at hc
    split at hx
    case h_2 => cases hx
    rename_i vs heq
    rw [heq] at hc
    simp only [Option.map_eq_some_iff, Prod.mk.injEq] at hx
    obtain ⟨x', hx, rfl, rfl⟩ := hx
    cases hc with
    | tup _ us hn hr =>
      have hlt : i < us.size := by rw [hn]; exact (List.getElem?_eq_some_iff.1 hx).1
      exact .pure h (v := us[i]) (by simp [execOp, hop, hxv, Instr.extract, Array.getElem?_eq_getElem hlt]) (hr i _ _ hx (Array.getElem?_eq_getElem hlt))
  case range t x =>
    refine fin (by simp [hop]) ?_
    obtain ⟨e', v, hv, hr, hs, ha⟩ := rangeStrA_ok (C := C) h (hev x) hx
    exact ⟨e', _, v, by simp [execOp, hop, hv], .inl rfl, hr, hs, ha⟩
  case next x b =>
    cases b <;> simp only [reduceCtorEq] at hx
    refine fin (by simp [hop]) ?_
    obtain ⟨e', v, hv, hr, hs, ha⟩ := nextA_ok (C := C) (ty := o.type) h (hev x) hx
    exact ⟨e', _, v, by simp [execOp, hop, hv], .inl rfl, hr, hs, ha⟩
  case makeSlice t n m =>
    refine fin (by simp [hop]) ?_
    obtain ⟨e', v, hv, hr, hs, ha⟩ := makeSliceA_ok (C := C) h (hev n) (hev m) hx
    exact ⟨e', _, v, by simp [execOp, hop, hv], .inl rfl, hr, hs, ha⟩
  case call c =>
    obtain ⟨callee, args, ats⟩ := c
    cases callee with
    | invoke rv name => cases hx
    | value f =>
      simp only at hx
      have hargs := operands_rd hg he args.toList
      have hf := hev f
      generalize hfv : a.eval f = fv at hf
      unfold callA at hx
      split at hx
      · rename_i g cap heq
        rw [heq] at hf
        cases hf with
        | fn _ _ vs hn hr =>
        have hall : CellsRd e (args.toList.map (ev C env) ++ cap) ((args.map a.eval) ++ vs).toList := by
          rw [Array.toList_append]
          exact CellsRd.append (by simpa using hargs) ⟨by simpa using hn, fun i x v hx hv => hr i x v hx (by simpa using hv)⟩
        obtain ⟨hce, hcall⟩ := hrec.call g _ hp r hp' e _ hx h hg hall
        refine ⟨fun _ _ => trivial, ?_⟩
        have hrun : (execOp a.eval o).run C.P e.w = .ok (.enter g ((args.map a.eval) ++ vs)) e.w := by
          simp [execOp, hop, resolve, hfv, Deferred.ofValue, invoke, callFunc_run hce]
        rw [FW_round, semAt_exec rd _ _ (by simp [hop]), hrun]
        rw [Oper.uponIn_enter]
        refine ⟨fun hh => (by cases hh), ?_⟩
        have hcall' : CallsIn (FW rd) (0 - 1) C.P g ((args.map a.eval) ++ vs) e.w (Post B e r hp') := hcall
        refine ⟨hcall'.1, fun cs hroom => ?_⟩
        obtain ⟨en, w', fr, ⟨e', v, rfl, rfl, hr', hs', ha'⟩, hrest⟩ := hcall'.2 cs hroom
        exact ⟨_, _, fr, hnext e' v hr' hs' ha', hrest⟩
      · rename_i l heq
        rw [heq] at hf
        cases hf with
        | yield _ k hl =>
        obtain ⟨fn, tmps, assign, body, hy, hround⟩ := hrec.round l _ hp r hp' e (args.map a.eval) k hx h hg (by simpa using hargs) hl
        refine ⟨fun _ _ => trivial, ?_⟩
        have hrun : (execOp a.eval o).run C.P e.w = .ok (.round k fn tmps assign body) e.w := by
          simp [execOp, hop, resolve, hfv, Deferred.ofValue, invoke, hy]
        rw [FW_round, semAt_exec rd _ _ (by simp [hop]), hrun]
        rw [Oper.uponIn_round]
        refine ⟨fun hh => (by cases hh), ?_⟩
        have hround' : RoundIn (FW rd) (0 - 1) C.P k fn tmps assign body e.w (Post B e r hp') := hround
        refine hround'.mono ?_
        rintro en w' ⟨e', v, rfl, rfl, hr', hs', ha'⟩
        exact hnext e' v hr' hs' ha'
      · cases hx
    | builtin b =>
      cases b <;> simp only [reduceCtorEq] at hx
      case append =>
        refine fin (by simp [hop]) ?_
        split at hx
        case h_2 => cases hx
        rename_i s x hsx
        obtain rfl : args = #[s, x] := by cases args; simpa using hsx
        obtain ⟨e', v, hv, hr, hs, ha⟩ := appendA_ok (C := C) h (hev s) (hev x) hx o.type
        exact ⟨e', _, v, by simp [execOp, hop, resolve, invoke, builtin, hv], .inl rfl, hr, hs, ha⟩
      case unsafeSliceData =>
        refine fin (by simp [hop]) ?_
        split at hx
        case h_2 => cases hx
        rename_i x hsx
        obtain rfl : args = #[x] := by cases args; simpa using hsx
        simp only [Option.map_eq_some_iff, Prod.mk.injEq] at hx
        obtain ⟨x', hx, rfl, rfl⟩ := hx
        obtain ⟨v, hv, hr⟩ := rawA_ok (C := C) (ats := ats) (ty := o.type) h (hev x) hx
        exact .pure h (by simp [execOp, hop, resolve, invoke, builtin, hv]) hr
      case unsafeString =>
        refine fin (by simp [hop]) ?_
        split at hx
        case h_2 => cases hx
        rename_i x n pt it hsx hst
        obtain rfl : args = #[x, n] := by cases args; simpa using hsx
        obtain rfl : ats = #[pt, it] := by cases ats; simpa using hst
        simp only [Option.map_eq_some_iff, Prod.mk.injEq] at hx
        obtain ⟨x', hx, rfl, rfl⟩ := hx
        obtain ⟨e', v, hv, hr, hs, ha⟩ := rawStrA_ok (C := C) (it := it) (ty := o.type) h (hev x) (hev n) hx
        exact ⟨e', _, v, by simp [execOp, hop, resolve, invoke, builtin, hv], .inl rfl, hr, hs, ha⟩
      case len =>
        refine fin (by simp [hop]) ?_
        split at hx
        case h_2 => cases hx
        rename_i x hsx
        obtain rfl : args = #[x] := by cases args; simpa using hsx
        simp only [Option.map_eq_some_iff, Prod.mk.injEq] at hx
        obtain ⟨x', hx, rfl, rfl⟩ := hx
        obtain ⟨v, hv, hr⟩ := lenA_ok (C := C) (ty := o.type) (hev x) hx
        exact .pure h (by simp [execOp, hop, resolve, invoke, builtin, hv]) hr

end Go.Proofs.YtkddphdhcejdaaaDoor.AI
