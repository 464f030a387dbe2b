/-
  A function of the program's that was followed once, as a given one from there on.
-/
import Derived.Test.YtkddphdhcejdaaaDoorVb
import Derived.Test.YtkddphdhcejdaaaDoorAiX
set_option linter.unusedVariables false
namespace Go.Proofs.YtkddphdhcejdaaaDoor.AI
variable {C : Cfg} {B : Nat}

abbrev h00 : Hp := ⟨[], [], [], 0, 0, 0⟩
abbrev s00 : Sel := ⟨[], [], []⟩

/-- A call of plain data, in whatever memory. -/
theorem call_any {g : FuncId} {args args' : List AV} {hp : Hp} {r : AV} {h1 : Hp} {k : Nat} (hp0 : C.prim g = none) (hd : handed C g args = args') (hr : AV.refss args' = []) (hc : s00.cov args' = true) (hren : s00.ren args' = args')
    (hl : hp.lb = 0 ∧ hp.lt = 0 ∧ hp.ll = 0) (hk : coreStep C (ai C k) g args' h00 = some (r, h1)) : (ai C (k + 1)).call g args hp = some (embed s00 hp r h1) := by
  show callStep C (ai C k) g args hp = _
  have hsel : selOf hp [] args' = s00 := by
    unfold selOf
    rw [hr]
    rfl
  have hok : s00.ok hp args' = true := by
    unfold Sel.ok
    rw [hc, hl.1, hl.2.1, hl.2.2]
    rfl
  unfold callStep
  have hh : s00.hp hp = h00 := rfl
  simp only [hp0, hd, hsel, hok, if_true, hren, hh, hk]

theorem call_core {g : FuncId} {args args' : List AV} {hp : Hp} {r : AV} {h1 : Hp} (hp0 : C.prim g = none) (hd : handed C g args = args') (hr : AV.refss args' = []) (hc : s00.cov args' = true) (hren : s00.ren args' = args')
    (hl : hp.lb = 0 ∧ hp.lt = 0 ∧ hp.ll = 0) (H : CoreE C g args' h00 r h1) : ∃ k, (ai C k).call g args hp = some (embed s00 hp r h1) := by
  obtain ⟨k, hk⟩ := H
  exact ⟨k + 1, call_any hp0 hd hr hc hren hl (hk k (Nat.le_refl _))⟩

/-- What was followed is given. -/
theorem prim_followed {f : FuncId} {F : List AV → Hp → Option (AV × Hp)} (hm : C.P.follows .mixedOrders = true) (hd : GlData C) (hprim : PrimOk C B)
    (hF : ∀ args hp r hp', F args hp = some (r, hp') → ∃ k, (ai C k).call f args hp = some (r, hp')) : PrimSpec C B f F := by
  intro args hp r hp' e vs hx h hg ha
  obtain ⟨k, hk⟩ := hF args hp r hp' hx
  exact (ai_ok hm hd hprim k).call f args hp r hp' e vs hk h hg ha

def intsOf (k : IntKind) : List AV → Option (List Int)
  | [] => some []
  | .int q n :: xs => if q = k then (intsOf k xs).map (n :: ·) else none
  | _ => none
theorem intsOf_eq {k : IntKind} : ∀ {xs : List AV} {l : List Int}, intsOf k xs = some l → xs = l.map fun z => .int k z
  | [], l, h => by cases h; rfl
  | x :: xs, l, h => by
    unfold intsOf at h
    split at h
    · rename_i h1; cases h1
    · rename_i q n ys h1
      cases h1
      split at h
      · rename_i hq
        subst hq
        obtain ⟨l', h2, rfl⟩ := Option.map_eq_some_iff.1 h
        rw [intsOf_eq h2]
        rfl
      · cases h
    · cases h

end Go.Proofs.YtkddphdhcejdaaaDoor.AI
