/-
  The operations of a region in the text's order.
-/
import Derived.Test.YtkddphdhcejdaaaDoorAiN
set_option linter.unusedVariables false
set_option linter.unusedSimpArgs false
namespace Go.Proofs.YtkddphdhcejdaaaDoor.AI
open Go.RowKit
variable {C : Cfg} {B : Nat} {e : E} {hp : Hp}

theorem wantA_ok {ops : Array Oper} {env : List AV} {a : Act} (he : EnvOk e env a.tmps) {o : Oper} {b : Bool} (hx : wantA ops env o = some b) : Region.wanted o (yielded ops a.tmps) = b := by
  unfold wantA at hx
  unfold Region.wanted
  cases hgu : o.guard with
  | none =>
    simp only [hgu, Option.some.injEq] at hx
    simpa using hx
  | some p =>
    obtain ⟨j, want⟩ := p
    simp only [hgu] at hx
    simp only [yielded]
    cases hj : ops[j]? with
    | none => simp [hj] at hx; simp [hx]
    | some o' =>
      cases hd : o'.dst with
      | none => simp [hj, hd] at hx; simp [hd, hx]
      | some d =>
        simp only [hj, Option.bind_some, hd] at hx ⊢
        cases hed : env[d]? with
        | none =>
          simp only [hed] at hx
          have hlt : ¬ d < a.tmps.size := by rw [he.1]; exact Nat.not_lt.2 (List.getElem?_eq_none_iff.1 hed)
          cases hx
          simp [Array.getElem?_eq_none (Nat.not_lt.1 hlt)]
        | some x =>
          have hlt : d < a.tmps.size := by rw [he.1]; exact (List.getElem?_eq_some_iff.1 hed).1
          have hrd := he.2 d x _ hed (Array.getElem?_eq_getElem hlt)
          simp only [hed] at hx
          rw [Array.getElem?_eq_getElem hlt]
          generalize a.tmps[d] = v at hrd
          have hv : ∀ t xs, x = .own t xs → ∃ A n c, v = .slice A n c := by
            rintro t xs rfl
            obtain ⟨A, cap, k, vf, hrow⟩ := hrd.row rfl
            exact ⟨_, _, _, hrow.hv⟩
          cases hrd
          case own => obtain ⟨A, n, c, rfl⟩ := hv _ _ rfl; simp only [Option.some.injEq] at hx; subst hx; simp
          all_goals simp only [Option.some.injEq, reduceCtorEq] at hx <;> subst hx <;> simp [Go.undef]

theorem about_fence (rd : Option Nat) (o : Oper) (P : Program) (w : World) (ρ : Operand → Value) : ∀ f, o.about P w ρ = some f → (FW rd).fn f := fun _ _ => trivial

theorem put_defers (a : Act) (d : Option Tmp) (v : Value) : (a.put d v).defers = a.defers := by cases d <;> rfl

theorem opsA_ok {fuel : Nat} {rec : Rec} (hrec : RecOk C B fuel rec) (rd : Option Nat) {ops : Array Oper} : ∀ (l : List Oper) {e : E} {env : List AV} {hp : Hp} {env' : List AV} {hp' : Hp} {a : Act}, opsA C rec ops l env hp = some (env', hp') → Sim B e hp → GlOk C e → EnvOk e env a.tmps →
    ∀ (Q : Exit → Act → World → Prop), (∀ e' a', EnvOk e' env' a'.tmps → Sim B e' hp' → Adv e e' → a'.defers = a.defers → Q .normal a' e'.w) → wpListIn (FW rd) 0 C.P ops Q l a e.w
  | [], e, env, hp, env', hp', a, hx, h, hg, he, Q, hQ => by
    cases hx
    exact hQ e a he h (.refl e) rfl
  | o :: l, e, env, hp, env', hp', a, hx, h, hg, he, Q, hQ => by
    unfold opsA at hx
    unfold wpListIn
    split at hx
    · rename_i hw
      rw [wantA_ok he hw]
      simp only [if_true]
      split at hx
      · rename_i v hp1 hop
        refine opA_ok hrec rd hop h hg he _ _ fun e1 u hr hs ha => ?_
        exact opsA_ok hrec rd l hx hs (hg.mono ha) ((he.mono ha).put hr o) Q fun e2 a2 h1 h2 h3 h4 => hQ e2 a2 h1 h2 (ha.trans h3) (h4.trans (put_defers _ _ _))
      · cases hx
    · rename_i hw
      rw [wantA_ok he hw]
      simp only [Bool.false_eq_true, if_false]
      refine ⟨about_fence rd _ _ _ _, ?_⟩
      exact opsA_ok hrec rd l hx h hg (he.put .no o) Q fun e2 a2 h1 h2 h3 h4 => hQ e2 a2 h1 h2 h3 (h4.trans (put_defers _ _ _))
    · cases hx

end Go.Proofs.YtkddphdhcejdaaaDoor.AI
