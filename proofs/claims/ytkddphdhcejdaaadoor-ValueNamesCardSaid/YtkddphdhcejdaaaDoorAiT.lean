/-
  Loops, rounds, calls: the interpreter is right at every fuel.
-/
import Derived.Test.YtkddphdhcejdaaaDoorAiS
set_option linter.unusedVariables false
set_option linter.unusedSimpArgs false
namespace Go.Proofs.YtkddphdhcejdaaaDoor.AI
open Go.RowKit
variable {C : Cfg} {B : Nat} {e : E} {hp : Hp}

theorem roundsIn_mono {F : Fence} {n : Nat} {P : Program} {c : Code} {Q Q' : Exit → Act → World → Prop} (hq : ∀ e a w, Q e a w → Q' e a w) : ∀ (m : Nat) (a : Act) (w : World), Code.roundsIn F n P c Q m a w → Code.roundsIn F n P c Q' m a w
  | 0, a, w, h => h
  | m + 1, a, w, h => by
    rw [roundsIn_succ] at h ⊢
    refine wpIn_mono h fun ex a1 w1 hq1 => ?_
    cases ex <;> first | exact roundsIn_mono hq m _ _ hq1 | exact hq _ _ _ hq1

/-- What is told of the package-level variables has no word of the calls' own memory. -/
def GlData (C : Cfg) : Prop := ∀ g cs n t l, C.gl g = some cs → AV.allUnder n t l cs = true

theorem GlOk.restrict (hd : GlData C) (hg : GlOk C e) (n t l : Nat) : GlOk C (e.restrict n t l) := fun g cs hc => ⟨rd_restrict (hg g cs hc).1 (hd g cs n t l hc), (hg g cs hc).2⟩

theorem loopStep_ok {fuel : Nat} {rec : Rec} (hrec : RecOk C B fuel rec) (hm : C.P.follows .mixedOrders = true) (hd : GlData C) {km : List (Nat × List Nat)} {keep : List Nat} {n t l : Nat} {body : Code} {env : List AV} {x : AX} {env' : List AV} {hp' : Hp} {a : Act} {M : List Nat} {rd : Option Nat}
    (hx : loopStep C rec km keep n t l body env hp = some (x, env', hp')) (h : Sim B e hp) (hg : GlOk C e) (he : EnvOk e env a.tmps) (hM : MarksOk e.w a M) (hrd : RdOk (e.restrict n t l) rd) :
    Code.roundsIn (FW rd) 0 C.P body (CodePost B (e.restrict n t l) x env' hp' M) (fuel + 1) a e.w := by
  unfold loopStep at hx
  split at hx
  case h_2 => cases hx
  rename_i hp1 htr
  obtain ⟨hs1, he1⟩ := trunc_ok htr h (he.mask keep)
  rw [roundsIn_succ]
  cases hc : cd C rec km body (mask keep 0 env) hp1 with
  | none => simp [hc] at hx
  | some r =>
    obtain ⟨x1, env1, hp2⟩ := r
    have hw := cd_ok hrec hm km body hc hs1 (hg.restrict hd n t l) he1 (M := M) (by exact hM) hrd
    refine wpIn_mono hw fun ex a1 w1 hq => ?_
    cases x1 with
    | normal =>
      simp only [hc] at hx
      obtain ⟨e1, M1, rfl, rfl, h3, h4, h5, h6, h7, h8⟩ := hq
      have ha := adv_restrict h5
      have := hrec.loop km keep n t l body env1 hp2 x env' hp' e1 a1 M1 rd hx h4 ((hg.restrict hd n t l).mono h5) h3 ⟨h6, h7, fun r hr => (h8 r hr).1⟩ (hrd.mono ha)
      exact roundsIn_mono (fun ex a2 w2 hq => hq.trans ha fun r hr => (h8 r hr).2) _ _ _ this
    | exit id =>
      simp only [hc, Option.some.injEq, Prod.mk.injEq] at hx
      obtain ⟨rfl, rfl, rfl⟩ := hx
      have hex := hq
      obtain ⟨_, _, _, rfl, _⟩ := hex
      exact hq
    | ret =>
      simp only [hc, Option.some.injEq, Prod.mk.injEq] at hx
      obtain ⟨rfl, rfl, rfl⟩ := hx
      have hex := hq
      obtain ⟨_, _, _, rfl, _⟩ := hex
      exact hq

theorem setAll_ok : ∀ (ps : List Nat) (args : List AV) (vs : List Value) (env : List AV) (tmps : Array Value), EnvOk e env tmps → CellsRd e args vs → args.length = ps.length →
    EnvOk e (setAll env ps args) ((ps.zip vs).foldl (fun tmps (t, a) => tmps.setIfInBounds t a) tmps)
  | [], args, vs, env, tmps, he, hc, hl => by
    obtain rfl : args = [] := List.length_eq_zero_iff.1 hl
    simpa [setAll] using he
  | p :: ps, [], vs, env, tmps, he, hc, hl => by simp at hl
  | p :: ps, x :: xs, [], env, tmps, he, hc, hl => by simp [CellsRd] at hc
  | p :: ps, x :: xs, v :: vs, env, tmps, he, hc, hl => by
    simp only [setAll, List.zip_cons_cons, List.foldl_cons]
    refine setAll_ok ps xs vs _ _ ⟨by simpa using he.1, fun i y u hy hu => ?_⟩ ⟨by simpa using hc.1, fun i y u hy hu => hc.2 (i + 1) y u (by simpa using hy) (by simpa using hu)⟩ (by simpa using hl)
    rw [List.getElem?_set] at hy
    rw [Array.getElem?_setIfInBounds] at hu
    split at hy
    · rename_i hpi
      subst hpi
      rw [if_pos rfl] at hu
      split at hy
      · split at hu
        · cases hy; cases hu
          exact hc.2 0 _ _ rfl rfl
        · cases hu
      · cases hy
    · rename_i hpi
      rw [if_neg hpi] at hu
      exact he.2 i y u hy hu

theorem roundStep_ok {fuel : Nat} {rec : Rec} (hrec : RecOk C B fuel rec) (hm : C.P.follows .mixedOrders = true) {l : Nat} {args : List AV} {r : AV} {hp' : Hp} {vs : Array Value} {k : Nat}
    (hx : roundStep C rec l args hp = some (r, hp')) (h : Sim B e hp) (hg : GlOk C e) (ha : CellsRd e args vs.toList) (hk : e.lp l = some k) :
    ∃ fn tmps assign body, (Instr.yield k vs).run C.P e.w = .ok (.round k fn tmps assign body) e.w ∧ RoundIn Fence.wide 0 C.P k fn tmps assign body e.w (Post B e r hp') := by
  unfold roundStep at hx
  split at hx
  case h_2 => cases hx
  rename_i r0 hr0
  split at hx
  case isFalse => cases hx
  rename_i hc
  obtain ⟨c1, c2, c3⟩ := hc
  have hit0 : r0.it = none := by simpa using c3
  obtain ⟨_, r1, f1, tm1, df1, g1, g2, g30⟩ := h.loop l k hk
  rw [hr0] at g1
  cases g1
  have g3 := g30 hit0
  simp only [LR.obj, hit0] at g2
  have hsz : vs.size = r0.params.toArray.size := by have := ha.1; simp at this ⊢; omega
  refine ⟨_, _, _, _, run_yield g2 hsz, ?_⟩
  have hcd : ∃ x1 env1 hp1, cd C rec r0.km r0.assign (setAll r0.env r0.params args) hp = some (x1, env1, hp1) ∧ x1 = .normal := by
    split at hx
    · rename_i env1 hp1 hcd
      exact ⟨_, env1, hp1, hcd, rfl⟩
    · cases hx
  obtain ⟨_, env1, hp1, hcd, rfl⟩ := hcd
  simp only [hcd] at hx
  have hset : EnvOk e (setAll r0.env r0.params args) ((r0.params.toArray.zip vs).foldl (fun tmps (t, a) => tmps.setIfInBounds t a) tm1) := by
    have := setAll_ok r0.params args vs.toList r0.env tm1 g3 ha c1
    rw [← Array.foldl_toList, Array.toList_zip]
    exact this
  refine roundIn_of_wpIn trivial ?_
  have hw := cd_ok hrec hm r0.km r0.assign (rd := some k) (M := []) hcd h hg (a := { tmps := _, defers := [] }) hset ⟨rfl, List.nodup_nil, fun r hr => by cases hr⟩ (fun k' hk' => by cases hk'; exact ⟨_, g2⟩)
  refine wpIn_mono hw fun ex a1 w1 hq => ?_
  obtain ⟨e1, M1, rfl, rfl, h3, h4, h5, h6, h7, h8⟩ := hq
  have hk1 := h5.lp l k hk
  obtain ⟨_, r1, f2, tm2, df2, q1, q2o, q3⟩ := h4.loop l k hk1
  simp only [q1] at hx
  split at hx
  case isFalse => cases hx
  rename_i hri
  obtain ⟨hready, hi1⟩ := hri
  have hit1 : r1.it = none := by simpa using hi1
  have q2 := q2o
  simp only [LR.obj, hit1] at q2
  obtain ⟨hs2, ha2⟩ := step_setloop (r' := { r1 with state := .busy }) h4 hk1 q1 q2o q3 (fun _ => hit1) rfl
  refine ⟨e1.w.putObj k (LR.obj { r1 with state := .busy } f2 tm2 df2), by simp only [LR.obj, hit1]; exact run_beginRound q2 hready, ?_⟩
  cases hb : cd C rec r0.km r0.body env1 { hp1 with loops := hp1.loops.set l { r1 with state := .busy } } with
  | none => rw [hb] at hx; cases hx
  | some res =>
    obtain ⟨x2, env2, hp2⟩ := res
    rw [hb] at hx
    simp only at hx
    have hw2 := cd_ok hrec hm r0.km r0.body (rd := some k) (M := M1) hb hs2 ((hg.mono h5).mono ha2) (h3.mono ha2) (MarksOk.mono ⟨h6, h7, fun r hr => (h8 r hr).1⟩ ha2 h4 rfl) (fun k' hk' => by cases hk'; exact ha2.lo _ _ q2)
    refine wpIn_mono hw2 fun ex a2 w2 hq => ?_
    obtain ⟨e2, M2, rfl, rfl, i3, i4, i5, i6, i7, i8⟩ := hq
    have hk2 := i5.lp l k (ha2.lp _ _ hk1)
    obtain ⟨_, r2, f3, tm3, df3, j1, j2o, j3⟩ := i4.loop l k hk2
    simp only [j1] at hx
    split at hx
    case isTrue => cases hx
    rename_i hi2
    have hit2 : r2.it = none := Option.not_isSome_iff_eq_none.1 hi2
    have j2 := j2o
    simp only [LR.obj, hit2] at j2
    simp only [Option.some.injEq, Prod.mk.injEq] at hx
    obtain ⟨rfl, rfl⟩ := hx
    have fin : ∀ jump : Option Code, (match x2 with | .normal => none | .ret => some .ret | .exit id => some (.exit id)) = jump → ∃ v w', (Instr.endRound k jump).run C.P e2.w = .ok v w' ∧
        Post B e (.bool jump.isNone) { hp2 with loops := hp2.loops.set l { r2 with state := if jump.isNone then .ready else .done, pending := jump } } (.returned v) w' := by
      rintro jump hj
      obtain ⟨hs3, ha3⟩ := step_setloop (r' := { r2 with state := if jump.isNone then .ready else .done, pending := jump }) i4 hk2 j1 j2o j3 (fun _ => hit2) rfl
      refine ⟨_, e2.w.putObj k (LR.obj { r2 with state := if jump.isNone then .ready else .done, pending := jump } f3 tm3 df3), by simp only [LR.obj, hit2]; exact run_endRound jump j2, _, _, rfl, rfl, .bool _, hs3, ((h5.trans ha2).trans i5).trans ha3⟩
    cases x2 with
    | normal => exact fin none rfl
    | ret => exact fin (some .ret) rfl
    | exit id => exact fin (some (.exit id)) rfl

end Go.Proofs.YtkddphdhcejdaaaDoor.AI
