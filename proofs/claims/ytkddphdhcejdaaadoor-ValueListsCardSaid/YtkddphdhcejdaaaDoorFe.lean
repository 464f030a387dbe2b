/-
  The law ValueLists: the row's proof, the card.
-/
import Derived.Test.YtkddphdhcejdaaaDoorFd
import Derived.Test.YtkddphdhcejdaaaDoorGa
set_option linter.unusedVariables false
namespace Go.Proofs.YtkddphdhcejdaaaDoor.valueLists
open Go.ChangeShapes Go.WideShapes Go.ChangeAt Go.RowKit

theorem und22 : Tryd.prog.underlying 22 = some (.slice 3) := by kernel_rfl
theorem und3 : Tryd.prog.underlying 3 = some (.int .i64) := by kernel_rfl
theorem params : Tryd.f3.params = #[22, 9] := by kernel_rfl

set_option maxRecDepth 100000 in
/-- WHAT THE WALK GIVES, FOR EVERY ARGUMENT AND EVERY WORLD THAT HOLDS THE VARIABLES. -/
theorem contract (H : Type) (enc : TypeId × Value → H) (W : World) (base : Nat) (args : Array Value) (ds gs : List (DataW H)) (before : List MemPlace)
    (hval : ∀ (j : Nat) t v, Tryd.f3.params[j]? = some t → args[j]? = some v → Value.okWide Tryd.prog W .any base t v)
    (hW : DataW.Whole enc Tryd.prog Tryd.f3.params.toList Rows.valueListsSpec.vars false W args.toList ds gs before) (hL : laidMetH Tryd.prog Rows.valueListsRow.laid W) :
    Calls Tryd.prog 3 args W fun e W' => ∃ v, e = .returned v ∧ Rows.valueListsSpec.post enc Tryd.prog Tryd.f3 false true false false W args v W' := by
  have hW' := hW
  obtain ⟨p, q, hA0, hV, rfl, hfz, hnd⟩ := hW
  have hA : DataW.TrodAll enc Tryd.prog W 0 (fun _ => true) true Tryd.f3.params.toList args.toList ds p := hA0
  rw [params] at hA hval
  obtain ⟨v0, v1, d0, d1, p0, p1, rfl, rfl, rfl, h0, h1⟩ := trodAll_two hA
  obtain ⟨rfl, rfl⟩ := trodVars_none hV
  clear hA0
  simp only [List.append_nil] at hW'
  obtain ⟨f0, k0⟩ := h0
  obtain ⟨f1, k1⟩ := h1
  obtain ⟨a0, len, cap, rfl⟩ := okWide_slice und22 (hval 0 22 v0 rfl rfl)
  obtain ⟨s, rfl⟩ := okWide_string und9 (hval 1 9 v1 rfl rfl)
  obtain ⟨xs0, x0, zs, rfl⟩ := AI.reads_ints (C := C) (n := 0) und22 und3 (by kernel_rfl) H enc W 0 (fun _ => true) true f0 _ d0 p0 k0
  obtain ⟨xs1, x1, s', rfl, _⟩ := AI.reads_str (C := C) (n := 0) und9 H enc W 0 (fun _ => true) true f1 _ d1 p1 k1
  have r0 := AI.arg_one (AI.arg_rd (C := C) ⟨f0, k0⟩ x0) rfl
  have r1 := AI.arg_one (AI.arg_rd (C := C) ⟨f1, k1⟩ x1) rfl
  obtain ⟨k, hk⟩ := valueLists_core zs s'
  have hcall := AI.call_plain (C := C) (g := 3) (args := [.list (zs.map I), .str s']) (hp := h0) rfl rfl rfl rfl rfl ⟨rfl, rfl, rfl⟩ (hk k (Nat.le_refl _)) rfl
  have walk := AI.calls_of (C := C) mixed (fun g cs n t l hg => glData g cs n t l hg) W (prim_ok _) (glOk hL) (vs := #[.slice a0 len cap, .string s]) hcall (AI.args_cons r0 (AI.args_cons r1 AI.args_nil))
  refine walk.mono fun e W' ⟨he, hg⟩ => ?_
  subst he
  have hlt : ∀ x ∈ p0 ++ p1, x.block < W.heap.size := fun x hx => by simpa using hW'.lt x hx
  refine ⟨_, rfl, AI.post_below (pa := p0 ++ p1) (pv := []) hW' (fun _ _ _ => trodAll_cons_mk (shut_bool und4 _) trodAll_mk0) (fun sp hsp => ?_) (fun _ _ => rfl) (by simp) hg (ok_one (by kernel_rfl) rfl (okWide_bool_mk und4 _))⟩
  rw [params]
  exact trodAll_mk2 (AI.trod_back (C := C) laidOut (by kernel_rfl) (of_decide_eq_true (by kernel_rfl)) ⟨f0, k0⟩ hg (fun x hx => hlt x (List.mem_append_left _ hx)) (fun x hx => hsp x (List.mem_append_left _ hx)))
    (AI.trod_back (C := C) laidOut (by kernel_rfl) (of_decide_eq_true (by kernel_rfl)) ⟨f1, k1⟩ hg (fun x hx => hlt x (List.mem_append_right _ hx)) (fun x hx => hsp x (List.mem_append_right _ hx)))

noncomputable def args0 : Array Value := #[.slice none 0 0, .string ⟨#[]⟩]
theorem reads (os : Os) {H : Type} (enc : TypeId × Value → H) : ∃ places, DataW.whole enc Tryd.prog ((laidWorld os).forCall (fun _ _ => 0) ⟨#[], args0, []⟩).memory Tryd.f3.params.toList Rows.valueListsSpec.vars false args0.toList 8 = some ([.nil, .lit (.string [])], [], places) :=
  ⟨[], by kernel_rfl⟩

set_option maxRecDepth 100000 in
theorem lifted (os : Os) (started : os.Started) (H : Type) (enc : TypeId × Value → H) (F : Stop.Interp) :
    ReturnsInHanded {} Tryd.checked os 3 .any ((OpenSpec.ofChange Rows.valueListsSpec).preRow enc Tryd.prog Tryd.f3 Rows.valueListsRow.domain false Rows.valueListsRow.laid) (((OpenSpec.ofChange Rows.valueListsSpec).at F).post enc Tryd.prog Tryd.f3 false true false false) := by
  obtain ⟨places, hx⟩ := reads os enc
  refine returnsInHanded_of_row (C := Tryd.checked) (s := OpenSpec.ofChange Rows.valueListsSpec) own started (by kernel_rfl) Tryd.func3
    (witness_row_at (enc := enc) (C := Tryd.checked) false (laidWorld os) args0 rfl (by kernel_rfl) (by kernel_rfl) (by kernel_rfl)
      (OpenSpec.preRow_of_cond 8 hx (by kernel_rfl) (fun k hk => by cases hk) (by kernel_rfl) (laid_met os args0))) ?_
  intro W base args ds gs before hval hW _ _ _ hL _ _
  exact contract H enc W base args ds gs before hval hW hL

theorem said : Rows.ValueListsSaid :=
  OpenClaim.holds_of_cond 3 Tryd.f3 rfl rfl rfl rfl rfl rfl rfl ⟨rfl, rfl, rfl, rfl, rfl⟩ rfl rfl rfl rfl rfl (by kernel_rfl) Tryd.func3 (by kernel_rfl)
    (of_decide_eq_true (by kernel_rfl)) (by unfold Func.isWrapper; first | (rw [if_pos (by decide +kernel)]; kernel_rfl) | (rw [if_neg (by decide +kernel)]; exact ⟨rfl, rfl⟩))
    (fun os started H enc _ F => by rw [OpenClaim.pre_eq_preRow]; exact lifted os started H enc F)

/-- No parameter wants a stand-in; the program's own looks are off. -/
theorem plain (f : FuncId) (fn : Func) (hf : Tryd.pinned.checked.prog.funcNamed "backstay/backstaylaw02.ValueLists" = some f) (hfn : Tryd.pinned.checked.prog.funcs[f]? = some fn) :
    true = Tryd.pinned.checked.prog.looks [] ∧ ∀ (j : Nat) t, fn.params[j]? = some t → Tryd.pinned.checked.prog.wantsStandIn t = false := by
  obtain rfl : f = 3 := Option.some.inj ((show Tryd.prog.funcNamed "backstay/backstaylaw02.ValueLists" = some 3 by kernel_rfl).symm.trans hf) |>.symm
  obtain rfl : fn = Tryd.f3 := (Option.some.inj (Tryd.func3.symm.trans hfn)).symm
  refine ⟨by kernel_rfl, fun j t ht => ?_⟩
  rw [params] at ht
  match j with
  | 0 => obtain rfl : 22 = t := by simpa using ht
         exact (show Tryd.prog.wantsStandIn 22 = false by kernel_rfl)
  | 1 => obtain rfl : 9 = t := by simpa using ht
         exact (show Tryd.prog.wantsStandIn 9 = false by kernel_rfl)
  | j + 2 => simp at ht

/-- ████ THE CARD ████ -/
theorem card : Rows.ValueListsCardSaid :=
  Claim7.holds_tied_plain_at .later [] _ _ _ _ said (fun _ h => by cases h) (by kernel_rfl) (fun _ h => by cases h) valueLists_row_tie rfl ⟨rfl, rfl⟩ (by kernel_rfl) rfl plain (by kernel_rfl)

end Go.Proofs.YtkddphdhcejdaaaDoor.valueLists
