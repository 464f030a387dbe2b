/-
  From what is proved of a function of the library to what the interpreter asks of it; from the interpreter's word to the end of a row's proof.
-/
import Derived.Test.YtkddphdhcejdaaaDoorAiV
import Derived.Below
import Derived.Carry
import Derived.ChangeSame
set_option linter.unusedVariables false
namespace Go.Proofs.YtkddphdhcejdaaaDoor.AI
open Go.RowKit Go.ChangeShapes
variable {C : Cfg} {B : Nat} {e : E} {hp : Hp}

/-- What was there is as it was. -/
theorem step_below (h : Sim B e hp) {w' : World} (hb : Below e.w.heap.size e.w w') : Sim B { e with w := w' } hp ∧ Adv e { e with w := w' } := by
  have hc : ∀ a, e.S a → w'.cell? a = e.w.cell? a := fun a ha => hb.cell (h.lt ha)
  have ha : Adv e { e with w := w' } := ⟨fun a hS => ⟨hS, hc a hS⟩, fun _ _ h => h, fun _ _ h => h, fun t tk h => ⟨tk, h, Nat.le_refl _, fun _ => rfl, fun _ => rfl⟩, fun _ _ h => .inl h, fun _ _ h => .inl h,
    fun t tk' g h hg => .inl ⟨tk', h, hg⟩, hb.size, fun r hr _ _ _ => hb.block r hr, fun _ h => .inl h, fun _ _ h => .inl h, fun _ tk h => .inl ⟨tk, h⟩, fun _ _ h => .inl h, rfl, rfl, rfl, hb.os, hb.tape, hb.output,
    fun k r h0 => ⟨r, (hb.block k (lt_of_heap h0)).trans h0⟩, fun k vs t z h0 => ⟨vs, z, (hb.block k (lt_of_heap h0)).trans h0, rfl⟩⟩
  refine ⟨⟨Nat.le_trans h.base hb.size, h.lk, fun a hS => by show (w'.cell? a).isSome = true; rw [hc a hS]; exact h.Sok a hS, ?_, h.inj, ?_, h.tinj, ?_, h.linj⟩, ha⟩
  · intro b k hk
    obtain ⟨h1, h2, cs, vs, t, h3, h4, h5, h6⟩ := h.box b k hk
    exact ⟨h1, h2, cs, vs, t, h3, (hb.block k (lt_of_heap h4)).trans h4, h5, fun i x v hx hv => (h6 i x v hx hv).mono ha⟩
  · intro t tk htk
    obtain ⟨h1, h2⟩ := h.tok t tk htk
    exact ⟨h1, h2.mono (fun a h => .inl h) (fun g hg => hb.block g (h2.lt hg)) (fun _ _ _ h => h)⟩
  · intro l k hl
    obtain ⟨h1, r, f, tmps, df, h2, h3, h4⟩ := h.loop l k hl
    exact ⟨h1, r, f, tmps, df, h2, (hb.block k (lt_of_heap h3)).trans h3, fun hi => (h4 hi).mono ha⟩

theorem prim_of {P : Program} {f : FuncId} {vs : Array Value} {r : AV} {R : Value → Prop} (hc : Calls P f vs e.w fun en w' => ∃ v, en = .returned v ∧ R v ∧ Below e.w.heap.size e.w w') (h : Sim B e hp)
    (hr : ∀ e' v, Adv e e' → R v → Rd e' r v) : CallsIn Fence.wide 0 P f vs e.w (Post B e r hp) :=
  callsIn_wide.2 (hc.mono fun en w' ⟨v, h1, h2, h3⟩ => let ⟨s, a⟩ := step_below h h3; ⟨{ e with w := w' }, v, rfl, h1, hr _ v a h2, s, a⟩)

/-- Before the call: all cells are read, none is written. -/
def start (W : World) : E := { w := W, S := fun a => (W.cell? a).isSome = true, β := fun _ => none, τ := fun _ => none, lp := fun _ => none, lb := 0, lt := 0, ll := 0 }
def hp0 : Hp := ⟨[], [], [], 0, 0, 0⟩
theorem start_sim (W : World) : Sim W.heap.size (start W) hp0 :=
  ⟨Nat.le_refl _, ⟨rfl, rfl, rfl, Nat.le_refl _, Nat.le_refl _, Nat.le_refl _⟩, fun _ h => h, fun _ _ h => (by cases h), fun _ _ _ h => (by cases h), fun _ _ h => (by cases h), fun _ _ _ _ _ h => (by cases h), fun _ _ h => (by cases h), fun _ _ _ h => (by cases h)⟩

/-- Behind it: what was there is as it was. -/
theorem start_below {W : World} {e' : E} (h : Adv (start W) e') : Below W.heap.size W e'.w :=
  ⟨h.os, h.tape, h.output, h.size, fun k hk => h.keep k hk (fun _ h => (by cases h)) (fun _ h => (by cases h)) (fun _ _ h => (by cases h))⟩

/-- The interpreter's word on a call in a row's first world. -/
theorem calls_of (hm : C.P.follows .mixedOrders = true) (hd : GlData C) (W : World) (hprim : PrimOk C W.heap.size) (hg : GlOk C (start W)) {k : Nat} {f : FuncId} {args : List AV} {vs : Array Value} {b : Bool} {hp' : Hp}
    (hx : (ai C k).call f args hp0 = some (.bool b, hp')) (ha : CellsRd (start W) args vs.toList) : Calls C.P f vs W fun en W' => en = .returned (.bool b) ∧ Below W.heap.size W W' := by
  obtain ⟨_, hc⟩ := (ai_ok hm hd hprim k).call f args hp0 _ hp' (start W) vs hx (start_sim W) hg ha
  refine (callsIn_wide.1 hc).mono ?_
  rintro en w' ⟨e', v, rfl, rfl, hv, hs, hadv⟩
  cases hv
  exact ⟨rfl, start_below hadv⟩

/-- 'post', where what was there is as it was. -/
theorem post_below {H : Type} {enc : TypeId × Value → H} {P : Program} {f : Func} {s : ChangeSpec} {apart fresh handsOn again : Bool} {W W' : World} {args : Array Value} {v : Value} {ds gs : List (DataW H)} {before pa pv : List MemPlace}
    (hW : DataW.Whole enc P f.params.toList s.vars apart W args.toList ds gs before)
    (hres : ∀ (b : Nat) (sp : Nat → Bool) (hd : Bool), DataW.TrodAll enc P W' b sp hd f.resultTypes.toList (v.resultList f.resultTypes.size) (s.fn H (ds ++ gs)).results [])
    (hargs : ∀ sp : Nat → Bool, (∀ p ∈ before, sp p.block = true) → DataW.TrodAll enc P W' 0 sp true f.params.toList args.toList (s.fn H (ds ++ gs)).args pa)
    (hvars : ∀ sp : Nat → Bool, (∀ p ∈ before, sp p.block = true) → DataW.TrodVars enc P W' sp s.vars (s.fn H (ds ++ gs)).vars pv)
    (hps : before = pa ++ pv) (hb : Below W.heap.size W W')
    (hok : ∀ (j : Nat) (t : TypeId) (r : Value), f.resultTypes[j]? = some t → (v.resultList f.resultTypes.size)[j]? = some r → Value.okWide P W' .any 0 t r) :
    s.post enc P f apart fresh handsOn again W args v W' := by
  have hold : ∀ p ∈ before, (fun b => decide (b < W.heap.size)) p.block = true := fun p hp => by simpa using hW.lt p hp
  refine ⟨ds, gs, before, [], pa, pv, hW, hres _ _ _, hargs _ hold, hvars _ hold, World.keptBut_mono (fun p hp => ⟨hp, ?_⟩) (hb.frame (· ∈ before)), fun _ => ?_⟩
  · rw [hps, List.mem_append] at hp
    exact Or.inr hp
  · have hlt := hW.lt
    obtain ⟨_, _, _, _, _, hz, hn⟩ := hW
    refine ⟨hok, _, _, ([] ++ pa) ++ pv, ⟨[] ++ pa, pv, trodAll_append (hargs _ (fun _ _ => rfl)) (hres _ _ _), hvars _ (fun _ _ => rfl), rfl, ?_, ?_⟩, ?_⟩
    · intro b off hp
      have hp' : MemPlace.cell b off ∈ before := by rw [hps]; simpa using hp
      rw [hb.frozen (p := ⟨b, off, none⟩) (hlt _ hp')]
      exact hz b off hp'
    · intro ha
      have := hn ha
      rw [hps] at this
      simpa using this
    · intro p hp _
      rw [hps]
      simpa using hp

end Go.Proofs.YtkddphdhcejdaaaDoor.AI
