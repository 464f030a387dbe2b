/-
  The law ValueNames: value.Types and value.Text are taken as they were followed; all else is reckoned.
-/
import Derived.Test.YtkddphdhcejdaaaDoorFb
import Derived.Test.YtkddphdhcejdaaaDoorVc
import Derived.Test.YtkddphdhcejdaaaDoorPrims
set_option linter.unusedVariables false
namespace Go.Proofs.YtkddphdhcejdaaaDoor
open Go.RowKit

def sTypes : List AI.AV → AI.Hp → Option (AI.AV × AI.Hp)
  | [.str s], hp => if s.size ≤ 100000 ∧ hp.lb = 0 ∧ hp.lt = 0 ∧ hp.ll = 0 then
      match typesF s with
      | some ts => some (AI.embed AI.s00 hp (.tup [.own 0 (ts.map I), I 0]) (h1 ts.length (elOf ts none)))
      | none => some (AI.embed AI.s00 hp (.tup [.own 0 [], I 20]) (h1 0 none))
    else none
  | _, _ => none
def sText (args : List AI.AV) (hp : AI.Hp) : Option (AI.AV × AI.Hp) :=
  match args.map AI.canonA with
  | [.list xs] => if hp.lb = 0 ∧ hp.lt = 0 ∧ hp.ll = 0 then (AI.intsOf .i64 xs).bind fun l => some (AI.embed AI.s00 hp (.str (textF l)) h0) else none
  | _ => none

theorem sTypes_ok (B : Nat) : AI.PrimSpec C B 11 sTypes := by
  refine AI.prim_followed mixed (fun g cs n t l hg => glData g cs n t l hg) (prim_ok B) fun args hp r hp' h => ?_
  unfold sTypes at h
  split at h
  case h_2 => cases h
  rename_i s
  split at h
  case isFalse => cases h
  rename_i hs
  split at h
  · rename_i ts ht
    obtain ⟨k, hk⟩ := AI.call_core (C := C) (g := 11) (args := [.str s]) (args' := [.str s]) (hp := hp) rfl (by kernel_rfl) rfl rfl rfl hs.2 (types_some' hs.1 ht)
    exact ⟨k, hk.trans h⟩
  · rename_i ht
    obtain ⟨k, hk⟩ := AI.call_core (C := C) (g := 11) (args := [.str s]) (args' := [.str s]) (hp := hp) rfl (by kernel_rfl) rfl rfl rfl hs.2 (types_none hs.1 ht)
    exact ⟨k, hk.trans h⟩

theorem kt12 : C.kt 12 = false := by kernel_rfl
theorem sText_ok (B : Nat) : AI.PrimSpec C B 12 sText := by
  refine AI.prim_followed mixed (fun g cs n t l hg => glData g cs n t l hg) (prim_ok B) fun args hp r hp' h => ?_
  unfold sText at h
  split at h
  case h_2 => cases h
  rename_i xs hxs
  split at h
  case isFalse => cases h
  rename_i hl
  obtain ⟨l, h1, h2⟩ := Option.bind_eq_some_iff.1 h
  have hx := AI.intsOf_eq h1
  subst hx
  obtain ⟨k, hk⟩ := AI.call_core (C := C) (g := 12) (args := args) (args' := [.list (l.map I)]) (hp := hp) rfl (by unfold AI.handed; rw [kt12]; exact hxs) rfl rfl rfl hl (text_core l)
  exact ⟨k, hk.trans h2⟩

/-- The settings, with these. -/
noncomputable def C1 : AI.Cfg := { C with prim := fun f => if f = 11 then some sTypes else if f = 12 then some sText else if f = 21 then some AI.pRepeat else prim f }

theorem prim1_ok (B : Nat) : AI.PrimOk C1 B := by
  intro f F hF
  have hF' : (if f = 11 then some sTypes else if f = 12 then some sText else if f = 21 then some AI.pRepeat else prim f) = some F := hF
  split at hF'
  · rename_i hf; subst hf; cases hF'; exact sTypes_ok B
  · split at hF'
    · rename_i hf; subst hf; cases hF'; exact sText_ok B
    · split at hF'
      · rename_i hf; subst hf; cases hF'
        exact AI.pRepeat_ok (C := C) ⟨Tryd.f21, Tryd.func21, rfl, by kernel_rfl⟩ (fun s c w h1 h2 h3 h4 => Tryd.strings_Repeat s c w h2 h3)
      · exact prim_ok B f F hF'

set_option maxRecDepth 100000 in
theorem valueNames_core : (AI.ai C1 100).call 4 [] h0 = some (.bool true, h0) := by kernel_rfl

end Go.Proofs.YtkddphdhcejdaaaDoor
