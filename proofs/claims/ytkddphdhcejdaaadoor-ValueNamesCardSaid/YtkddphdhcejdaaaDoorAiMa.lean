/-
  How the two memories go on at a range over a function, over a string; at a frozen row; the operations on them.
-/
import Derived.Test.YtkddphdhcejdaaaDoorAiM
import Derived.RangeFuncNested
import Derived.Lib.UnsafeStr
import Derived.Laws.MakeOwn
set_option linter.unusedVariables false
set_option linter.unusedSimpArgs false
namespace Go.Proofs.YtkddphdhcejdaaaDoor.AI
open Go.RowKit
variable {C : Cfg} {B : Nat} {e : E} {hp : Hp}

/-- A block that the tie has no word of. -/
structure Free (e : E) (r : Nat) : Prop where
  β : ∀ b, e.β b ≠ some r
  lp : ∀ l, e.lp l ≠ some r
  τ : ∀ t tk, e.τ t = some tk → tk.blk ≠ some r
  S : ∀ a, e.S a → a.block ≠ r

theorem Sim.free (h : Sim B e hp) {r : Nat} {d : Option (List Deferred)} (hr : e.w.heap[r]? = some (.deferred d)) : Free e r := by
  refine ⟨fun b hb => ?_, fun l hl => ?_, fun t tk ht hb => ?_, fun a ha hb => ?_⟩
  · obtain ⟨_, _, cs, vs, t, _, h4, _⟩ := h.box b r hb
    rw [hr] at h4
    cases h4
  · obtain ⟨_, r', f, tmps, df, _, h3, _⟩ := h.loop l r hl
    rw [hr] at h3
    exact LR.obj_deferred _ _ _ _ _ (Option.some.inj h3).symm
  · obtain ⟨_, h2⟩ := h.tok t tk ht
    rcases h2 with ⟨h2, _⟩ | ⟨h1, h2, g, cap, cur, el, fz, h3, h4, ⟨h5, _⟩, _⟩
    · rw [Tok.blk_zero h2] at hb; cases hb
    · rw [Tok.blk_pos h1 h3] at hb
      cases hb
      rw [hr] at h5
      cases h5
  · have := h.Sok a ha
    subst hb
    obtain ⟨v, hv⟩ := Option.isSome_iff_exists.1 this
    unfold World.cell? at hv
    simp [hr] at hv

theorem Adv.deferred {e' : E} (ha : Adv e e') (h : Sim B e hp) {r : Nat} {d : Option (List Deferred)} (hr : e.w.heap[r]? = some (.deferred d)) : e'.w.heap[r]? = some (.deferred d) := by
  have hf := h.free hr
  rw [ha.keep r (lt_of_heap hr) hf.β hf.lp hf.τ]
  exact hr

/-- A block that is none of the tie's cells is written. -/
theorem ext_put (r : Nat) (o : Obj) (hS : ∀ a, e.S a → a.block ≠ r) : Ext e { e with w := e.w.putObj r o } :=
  ⟨fun a ha => ⟨ha, by
    have := hS a ha
    show (e.w.putObj r o).cell? a = _
    unfold World.cell?
    rw [World.putObj_heap_other this]⟩, fun _ _ h => h, fun _ _ h => h, fun t tk h => ⟨tk, h, Nat.le_refl _, fun _ => rfl, fun _ => rfl⟩⟩

theorem EnvOk.ext {e' : E} (h : Ext e e') {env : List AV} {tmps : Array Value} (he : EnvOk e env tmps) : EnvOk e' env tmps :=
  ⟨he.1, fun i x v hx hv => (he.2 i x v hx hv).ext h⟩

theorem sim_put (h : Sim B e hp) {r : Nat} {o : Obj} {loops' : List LR} (hl : loops'.length = hp.loops.length) (hS : ∀ a, e.S a → a.block ≠ r) (hβ : ∀ b, e.β b ≠ some r) (hτ : ∀ t tk, e.τ t = some tk → tk.blk ≠ some r)
    (hloop : ∀ l k, e.lp l = some k → ∃ r' f tmps df, loops'[l]? = some r' ∧
      (e.w.putObj r o).heap[k]? = some (r'.obj f tmps df) ∧ (r'.it = none → EnvOk e r'.env tmps)) :
    Sim B { e with w := e.w.putObj r o } { hp with loops := loops' } := by
  have hx := ext_put (e := e) r o hS
  refine ⟨by have := h.base; simpa using this, by have := h.lk; simp only [hl]; exact this, fun a ha => by rw [(hx.S a ha).2]; exact h.Sok a ha, ?_, h.inj, ?_, h.tinj, ?_, h.linj⟩
  · intro b k hb
    obtain ⟨h1, h2, cs, vs, t, h3, h4, h5, h6⟩ := h.box b k hb
    exact ⟨h1, h2, cs, vs, t, h3, (World.putObj_heap_other (fun hh : k = r => hβ b (hh ▸ hb))).trans h4, h5, fun i x v hx' hv => (h6 i x v hx' hv).ext hx⟩
  · intro t tk htk
    obtain ⟨h1, h2⟩ := h.tok t tk htk
    exact ⟨h1, h2.mono (fun a h => .inl h) (fun g hg => World.putObj_heap_other (fun hh : g = r => hτ t tk htk (hh ▸ hg))) (fun _ _ _ h => h)⟩
  · intro l k hl
    obtain ⟨r', f, tmps, df, h2, h3, h4⟩ := hloop l k hl
    exact ⟨(h.loop l k hl).1, r', f, tmps, df, h2, h3, fun hi => (h4 hi).ext hx⟩

/-- A record of a loop is turned. -/
theorem step_setloop (h : Sim B e hp) {l k : Nat} (hk : e.lp l = some k) {r r' : LR} (hr : hp.loops[l]? = some r) {f : FuncId} {tmps : Array Value} {df : Nat}
    (hw : e.w.heap[k]? = some (r.obj f tmps df)) (he : r'.it = none → EnvOk e r'.env tmps) (hit : r.it = none → r'.it = none) {o : Obj} (ho : o = r'.obj f tmps df) :
    Sim B { e with w := e.w.putObj k o } { hp with loops := hp.loops.set l r' } ∧ Adv e { e with w := e.w.putObj k o } := by
  have hlt := lt_of_heap hw
  have hS : ∀ a, e.S a → a.block ≠ k := fun a ha hb => by
    subst hb
    obtain ⟨v, hv⟩ := Option.isSome_iff_exists.1 (h.Sok a ha)
    unfold World.cell? at hv
    rw [hw] at hv
    unfold LR.obj at hv
    cases hit : r.it <;> simp [hit] at hv
  have hβ : ∀ b, e.β b ≠ some k := fun b hb => by
    obtain ⟨_, _, cs, vs, t, _, h4, _⟩ := h.box b k hb
    rw [hw] at h4
    exact LR.obj_cells _ _ _ _ _ _ _ (Option.some.inj h4)
  have hτ : ∀ t tk, e.τ t = some tk → tk.blk ≠ some k := fun t tk ht hb => by
    rcases (h.tok t tk ht).2 with ⟨h2, _⟩ | ⟨h1, h2, g, cap, cur, el, fz, h3, h4, ⟨h5, _⟩, _⟩
    · rw [Tok.blk_zero h2] at hb; cases hb
    · rw [Tok.blk_pos h1 h3] at hb
      cases hb
      rw [hw] at h5
      exact LR.obj_cells _ _ _ _ _ _ _ (Option.some.inj h5)
  have hx := ext_put (e := e) k o hS
  refine ⟨sim_put h (by simp) hS hβ hτ fun l' k' hl' => ?_, ?_⟩
  · by_cases hll : l' = l
    · subst hll
      rw [hk] at hl'
      cases hl'
      refine ⟨r', f, tmps, df, ?_, ?_, he⟩
      · rw [List.getElem?_set_self (List.getElem?_eq_some_iff.1 hr).1]
      · rw [World.putObj_heap_same hlt, ho]
    · obtain ⟨_, r1, f1, tmps1, df1, g1, g2, g3⟩ := h.loop l' k' hl'
      refine ⟨r1, f1, tmps1, df1, by rw [List.getElem?_set_ne (Ne.symm hll)]; exact g1, ?_, g3⟩
      rw [World.putObj_heap_other (fun hh : k' = k => hll (h.linj l' l k (hh ▸ hl') hk))]
      exact g2
  · exact ⟨hx.S, hx.β, hx.lp, hx.τ, fun _ _ h => .inl h, fun _ _ h => .inl h, fun t tk' g h hg => .inl ⟨tk', h, hg⟩, by simp, fun r _ _ hr _ => World.putObj_heap_other (fun hh : r = k => hr l (hh ▸ hk)), fun _ h => .inl h, fun _ _ h => .inl h,
      fun _ tk h => .inl ⟨tk, h⟩, fun _ _ h => .inl h, rfl, rfl, rfl, rfl, rfl, rfl, fun k' r0 h0 => by
        by_cases hkk : k' = k
        · subst hkk
          rw [hw] at h0
          have hn : r.it = none := by
            unfold LR.obj at h0
            cases hi : r.it with
            | none => rfl
            | some p => simp [hi] at h0
          have := hit hn
          obtain ⟨r1, hr1⟩ : ∃ r1, o = Obj.loop r1 := by rw [ho]; simp only [LR.obj, this]; exact ⟨_, rfl⟩
          exact ⟨r1, by rw [← hr1]; exact World.putObj_heap_same hlt⟩
        · exact ⟨r0, (World.putObj_heap_other hkk).trans h0⟩,
      fun k' us t1 z1 h0 => ⟨us, z1, (World.putObj_heap_other (fun hh : k' = k => by subst hh; rw [hw] at h0; exact LR.obj_cells _ _ _ _ _ _ _ (Option.some.inj h0))).trans h0, rfl⟩⟩

/-- A mark's block is shut. -/
theorem step_shut {e0 : E} (h : Sim B e hp) (ha : Adv e0 e) {r : Nat} {d : Option (List Deferred)} (hr : e.w.heap[r]? = some (.deferred d)) (hnew : e0.w.heap.size ≤ r) (o : Obj) :
    Sim B { e with w := e.w.putObj r o } hp ∧ Adv e0 { e with w := e.w.putObj r o } ∧ Ext e { e with w := e.w.putObj r o } ∧ ∀ {C : Cfg}, GlOk C e → GlOk C { e with w := e.w.putObj r o } := by
  have hf := h.free hr
  have hx := ext_put (e := e) r o hf.S
  have hgl : ∀ {C : Cfg}, GlOk C e → GlOk C { e with w := e.w.putObj r o } := fun hg g cs hc => by
    obtain ⟨h1, vs, t, z, h2, h3⟩ := hg g cs hc
    refine ⟨h1.ext hx, vs, t, z, (World.putObj_heap_other (fun hh : g = r => ?_)).trans h2, h3⟩
    subst hh
    rw [hr] at h2
    cases h2
  refine ⟨sim_put (loops' := hp.loops) h rfl hf.S hf.β hf.τ fun l k hl => ?_, ?_, hx, hgl⟩
  · obtain ⟨_, r1, f1, tmps1, df1, g1, g2, g3⟩ := h.loop l k hl
    exact ⟨r1, f1, tmps1, df1, g1, (World.putObj_heap_other (fun hh : k = r => hf.lp l (hh ▸ hl))).trans g2, g3⟩
  · exact ⟨fun a hS => ⟨(ha.S a hS).1, ((hx.S a (ha.S a hS).1).2).trans (ha.S a hS).2⟩, ha.β, ha.lp, ha.τ, ha.nβ, ha.nlp, ha.nτ, by have := ha.size; simpa using this,
      fun q h1 h2 h3 h4 => (World.putObj_heap_other (by omega)).trans (ha.keep q h1 h2 h3 h4), ha.nS, ha.fβ, ha.fτ, ha.flp, ha.lb, ha.lt, ha.ll, ha.os, ha.tape, ha.output, fun k' r0 h0 => let ⟨r1, h1⟩ := ha.lo k' r0 h0; ⟨r1, (World.putObj_heap_other (fun hh : k' = r => by subst hh; rw [hr] at h1; cases h1)).trans h1⟩, fun k' us t1 z1 h0 => let ⟨v1, z2, h1, s1⟩ := ha.bl k' us t1 z1 h0; ⟨v1, z2, (World.putObj_heap_other (fun hh : k' = r => by subst hh; rw [hr] at h1; cases h1)).trans h1, s1⟩⟩

/-- A new record of a loop. -/
theorem step_loop (h : Sim B e hp) {r : LR} {f : FuncId} {tmps : Array Value} {df : Nat} (he : r.it = none → EnvOk e r.env tmps) {o : Obj} (ho : o = r.obj f tmps df) :
    ∃ e', e'.w = e.w.alloc o ∧ e'.lp hp.loops.length = some e.w.heap.size ∧ Sim B e' { hp with loops := hp.loops ++ [r] } ∧ Adv e e' := by
  have hnew := h.lp_new
  let e' : E := { e with w := e.w.alloc o, lp := fun b => if b = hp.loops.length then some e.w.heap.size else e.lp b }
  have hold : ∀ b k, e'.lp b = some k → (b = hp.loops.length ∧ k = e.w.heap.size) ∨ e.lp b = some k := fun b k hb => by
    simp only [e'] at hb
    split at hb
    · cases hb; exact .inl ⟨‹_›, rfl⟩
    · exact .inr hb
  have ha : Adv e e' := ⟨fun a ha => ⟨ha, World.cell?_alloc_lt _ _ _ (h.lt ha)⟩, fun _ _ h => h,
    fun b k hb => by show (if _ then _ else _) = _; rw [if_neg (fun hh => by subst hh; rw [hnew] at hb; cases hb)]; exact hb,
    fun t tk h => ⟨tk, h, Nat.le_refl _, fun _ => rfl, fun _ => rfl⟩, fun _ _ h => .inl h, fun b k hb => (hold b k hb).elim (fun h => .inr (by omega)) .inl,
    fun t tk' g h hg => .inl ⟨tk', h, hg⟩, by simp [e'], fun r hr _ _ _ => heap_alloc_lt _ _ hr, fun _ h => .inl h, fun _ _ h => .inl h, fun _ tk h => .inl ⟨tk, h⟩,
    fun b k hb => (hold b k hb).elim (fun hh => .inr (by have := h.lk; omega)) .inl, rfl, rfl, rfl, rfl, rfl, rfl, fun k r h => ⟨r, (heap_alloc_lt _ _ (lt_of_heap h)).trans h⟩, fun k vs t z h => ⟨vs, z, (heap_alloc_lt _ _ (lt_of_heap h)).trans h, rfl⟩⟩
  refine ⟨e', rfl, by simp [e'], ?_, ha⟩
  refine ⟨by have := h.base; simp [e']; omega, by have := h.lk; simp [e']; omega, fun a hS => by show ((e.w.alloc _).cell? a).isSome = true; rw [World.cell?_alloc_lt _ _ _ (h.lt hS)]; exact h.Sok a hS, ?_, h.inj, ?_, h.tinj, ?_, ?_⟩
  · intro b k hb
    obtain ⟨h1, h2, cs', vs', t', h3, h4, h5, h6⟩ := h.box b k hb
    exact ⟨h1, h2, cs', vs', t', h3, (heap_alloc_lt _ _ (lt_of_heap h4)).trans h4, h5, fun i x v hx hv => (h6 i x v hx hv).mono ha⟩
  · intro t' tk htk
    obtain ⟨h1, h2⟩ := h.tok t' tk htk
    exact ⟨h1, h2.mono (fun a h => .inl h) (fun g hg => heap_alloc_lt _ _ (h2.lt hg)) (fun b g hg hb => hb)⟩
  · intro l k hl
    rcases hold l k hl with ⟨rfl, rfl⟩ | hl
    · exact ⟨h.base, r, f, tmps, df, by simp, by rw [← ho]; exact heap_alloc_eq _ _, fun hi => (he hi).mono ha⟩
    · obtain ⟨h1, r', f', tmps', df', h2, h3, h4⟩ := h.loop l k hl
      exact ⟨h1, r', f', tmps', df', by simp only; rw [List.getElem?_append_left (h.lp_lt hl).1]; exact h2, (heap_alloc_lt _ _ (lt_of_heap h3)).trans h3, fun hi => (h4 hi).mono ha⟩
  · intro b b' k h1 h2
    rcases hold b k h1 with ⟨rfl, rfl⟩ | h1 <;> rcases hold b' _ h2 with ⟨rfl, h3⟩ | h2
    · rfl
    · exact absurd (h.lp_lt h2).2 (by omega)
    · exact absurd (h.lp_lt h1).2 (by omega)
    · exact h.linj b b' k h1 h2

/-- What a token has is frozen. -/
theorem step_freeze (h : Sim B e hp) {t : Nat} {tk : Tok} (ht : e.τ t = some tk) {g cap n : Nat} (hv : tk.v = .slice (some ⟨g, 0, none⟩) tk.m cap) (hm : 0 < tk.m) (hn : n ≤ tk.m * tk.k) :
    Sim B { e with w := e.w.freeze ⟨g, 0, none⟩ n } hp ∧ Adv e { e with w := e.w.freeze ⟨g, 0, none⟩ n } := by
  obtain ⟨htoks, hok⟩ := h.tok t tk ht
  have hb := Tok.blk_pos hm hv
  rcases hok with ⟨h0, _⟩ | ⟨_, hk0, g', cap', cur, el, fz, hv', hBg, ⟨hcur, hel, hfz⟩, hcs, hcap, hSg, hβg⟩
  · omega
  rw [hv] at hv'
  simp only [Value.slice.injEq, Option.some.injEq, Addr.mk.injEq, true_and, and_true] at hv'
  obtain ⟨rfl, rfl⟩ := hv'
  obtain ⟨fz', hw, hfz'⟩ : ∃ fz', e.w.freeze ⟨g, 0, none⟩ n = putBlock e.w g (.cells cur el fz') ∧ fz'.2 ≤ tk.m * tk.k := by
    obtain ⟨hlt, hk⟩ := Array.getElem?_eq_some_iff.1 hcur
    by_cases h0 : n = 0
    · refine ⟨fz, ?_, hfz⟩
      rw [World.freeze, if_pos h0]
      have : e.w.heap.setIfInBounds g (.cells cur el fz) = e.w.heap := by
        apply Array.ext_getElem?
        intro j
        rw [Array.getElem?_setIfInBounds]
        split
        · subst_vars; simp [hlt, hk]
        · rfl
      simp [putBlock, this]
    · refine ⟨if fz.1 == fz.2 then (0, n) else (min fz.1 0, max fz.2 n), ?_, ?_⟩
      · rw [World.freeze, if_neg h0, putBlock]
        congr 1
        apply Array.ext_getElem?
        intro i
        rw [Array.getElem?_modify, Array.getElem?_setIfInBounds]
        by_cases hi : g = i
        · subst hi
          obtain ⟨lo, hi⟩ := fz
          simp [hk, hlt]
        · simp [hi]
      · split
        · exact hn
        · exact Nat.max_le.2 ⟨hfz, hn⟩
  rw [hw]
  have hgl := lt_of_heap hcur
  have hcell : ∀ a, (putBlock e.w g (.cells cur el fz')).cell? a = e.w.cell? a := fun a => by
    by_cases hag : a.block = g
    · simp only [World.cell?, hag, putBlock_same _ _ _ hgl, hcur]
    · exact putBlock_cell _ _ _ _ hag
  have ha : Adv e { e with w := putBlock e.w g (.cells cur el fz') } := ⟨fun a hS => ⟨hS, hcell a⟩, fun _ _ h => h, fun _ _ h => h, fun t tk h => ⟨tk, h, Nat.le_refl _, fun _ => rfl, fun _ => rfl⟩, fun _ _ h => .inl h, fun _ _ h => .inl h,
    fun t tk' g h hg => .inl ⟨tk', h, hg⟩, by simp [putBlock_size], fun r _ _ _ hτ => putBlock_other _ _ _ _ (fun hh => hτ t tk ht (by rw [hh]; exact hb)), fun _ h => .inl h, fun _ _ h => .inl h,
    fun _ tk h => .inl ⟨tk, h⟩, fun _ _ h => .inl h, rfl, rfl, rfl, rfl, rfl, rfl, fun k' r h0 => ⟨r, (putBlock_other _ _ _ _ (fun hh : k' = g => by subst hh; rw [hcur] at h0; cases h0)).trans h0⟩, fun k' us t1 z1 h0 => by
      by_cases hh : k' = g
      · subst hh
        rw [hcur] at h0
        cases h0
        exact ⟨_, _, putBlock_same _ _ _ hgl, rfl⟩
      · exact ⟨us, z1, (putBlock_other _ _ _ _ hh).trans h0, rfl⟩⟩
  refine ⟨⟨by have := h.base; simpa [putBlock_size] using this, h.lk, fun a hS => by rw [hcell]; exact h.Sok a hS, ?_, h.inj, ?_, h.tinj, ?_, h.linj⟩, ha⟩
  · intro b k hb
    obtain ⟨h1, h2, cs, vs, ty, h3, h4, h5, h6⟩ := h.box b k hb
    exact ⟨h1, h2, cs, vs, ty, h3, (putBlock_other _ _ _ _ (fun hh : k = g => hβg b (hh ▸ hb))).trans h4, h5, fun i x v hx hv => (h6 i x v hx hv).mono ha⟩
  · intro t' tk' htk
    by_cases htt : t' = t
    · subst htt
      obtain rfl : tk = tk' := Option.some.inj (ht.symm.trans htk)
      exact ⟨htoks, .inr ⟨hm, hk0, g, cap, cur, el, fz', hv, hBg, ⟨putBlock_same _ _ _ hgl, hel, hfz'⟩, hcs, hcap, hSg, hβg⟩⟩
    · obtain ⟨h1, h2⟩ := h.tok t' tk' htk
      exact ⟨h1, h2.mono (fun a hS => .inl hS) (fun g1 hg1 => putBlock_other _ _ _ _ (fun hh : g1 = g => htt (h.tinj t' t tk' tk g htk ht (hh ▸ hg1) hb))) (fun _ _ _ h => h)⟩
  · intro l k hl
    obtain ⟨h1, r, f, tmps, df, h2, h3, h4⟩ := h.loop l k hl
    refine ⟨h1, r, f, tmps, df, h2, (putBlock_other _ _ _ _ ?_).trans h3, fun hi => (h4 hi).mono ha⟩
    rintro rfl
    rw [h3] at hcur; exact LR.obj_cells _ _ _ _ _ _ _ (Option.some.inj hcur)

theorem rangeStrA_ok (h : Sim B e hp) {t : TypeId} {x r : AV} {v : Value} {hp' : Hp} (hv : Rd e x v) (hx : rangeStrA C t x hp = some (r, hp')) :
    ∃ e' u, (Instr.range t v).run C.P e.w = .ok u e'.w ∧ Rd e' r u ∧ Sim B e' hp' ∧ Adv e e' := by
  unfold rangeStrA at hx
  split at hx
  case h_2 => cases hx
  rename_i s hu
  cases hv
  cases hx
  obtain ⟨e', w1, l1, s1, a1⟩ := step_loop (r := { env := [], params := [], km := [], assign := .skip, body := .skip, state := .ready, pending := none, it := some (s, 0) }) (f := 0) (tmps := #[]) (df := 0) h (fun hi => by cases hi) rfl
  refine ⟨e', _, ?_, .iter _ _ l1, s1, a1⟩
  simp only [Instr.range, Sem.run_bind, run_underlying hu, Result.andThen_ok, Sem.run_pure, run_newObj_alloc, w1]
  rfl

theorem nextA_ok (h : Sim B e hp) {ty : TypeId} {x r : AV} {v : Value} {hp' : Hp} (hv : Rd e x v) (hx : nextA x hp = some (r, hp')) :
    ∃ e' u, (Instr.next v true ty).run C.P e.w = .ok u e'.w ∧ Rd e' r u ∧ Sim B e' hp' ∧ Adv e e' := by
  unfold nextA at hx
  split at hx
  case h_2 => cases hx
  rename_i l
  cases hv with
  | iter _ k hl =>
  split at hx
  case h_2 => cases hx
  rename_i r0 hr0
  split at hx
  case h_2 => cases hx
  rename_i s pos hit
  obtain ⟨_, r1, f, tmps, df, h2, h3, h4⟩ := h.loop l k hl
  rw [hr0] at h2
  cases h2
  have hobj : e.w.heap[k]? = some (.stringIter s pos) := by rw [h3]; simp [LR.obj, hit]
  have tupRd : ∀ (e : E) (a b c : AV) (x y z : Value), Rd e a x → Rd e b y → Rd e c z → Rd e (.tup [a, b, c]) (.tuple #[x, y, z]) := fun e a b c x y z h1 h2 h3 => .tup _ _ rfl (fun i p v hp hv => by
    match i with
    | 0 => simp at hp hv; subst hp hv; exact h1
    | 1 => simp at hp hv; subst hp hv; exact h2
    | 2 => simp at hp hv; subst hp hv; exact h3
    | i + 3 => simp at hp)
  split at hx
  · rename_i hpos
    cases hx
    obtain ⟨s1, a1⟩ := step_setloop (r' := { r0 with it := some (s, pos + (Utf8.decode s pos).2) }) (f := f) (tmps := tmps) (df := df) h hl hr0 h3 (fun hi => by cases hi) (fun hn => by rw [hit] at hn; cases hn) rfl
    refine ⟨_, _, ?_, tupRd _ _ _ _ _ _ _ (.bool true) (.int _ _) (.int _ _), s1, a1⟩
    simp only [Instr.next, getObj, setObj, Sem.run_bind, Sem.run, hobj, Result.andThen, hpos, if_true, LR.obj, World.putObj]
    rfl
  · rename_i hpos
    cases hx
    refine ⟨e, _, ?_, .tup _ #[.bool false] rfl (fun i p v hp hv => by
      match i with
      | 0 => simp at hp hv; subst hp hv; exact .bool false
      | i + 1 => simp at hp), h, .refl e⟩
    simp [Instr.next, getObj, Sem.run, hobj, hpos]

theorem rawA_ok (h : Sim B e hp) {ats : Array TypeId} {ty : TypeId} {x r : AV} {v : Value} (hv : Rd e x v) (hx : rawA x hp = some r) :
    ∃ u, (Builtin.unsafeSliceData_ ats ty #[v]).run C.P e.w = .ok u e.w ∧ Rd e r u := by
  unfold rawA at hx
  split at hx
  · cases hx
    cases hv
    exact ⟨_, Lib.run_unsafeSliceData_nil _ _ _ _ _, .rawz _⟩
  · rename_i t
    split at hx
    case h_2 => cases hx
    rename_i htok
    cases hx
    cases hv with
    | own _ _ _ tk hl ht hle hk hvv =>
      obtain ⟨h1, h2⟩ := h.tok t tk ht
      rw [htok] at h1
      simp only [Option.some.injEq, Prod.mk.injEq] at h1
      rcases h2 with ⟨h0, A, hA, hn⟩ | ⟨h0, _⟩
      · obtain rfl := hvv (by simp [h0])
        rw [hA, hn h1.2.symm]
        exact ⟨_, Lib.run_unsafeSliceData_nil _ _ _ _ _, .rawz _⟩
      · omega
  · rename_i t y ys
    cases hx
    obtain ⟨A, cap, k, vf, hrow⟩ := hv.row rfl
    obtain ⟨a, rfl⟩ := Option.isSome_iff_exists.1 (hrow.hA (by simp))
    have hvv := hrow.hv
    subst hvv
    exact ⟨_, Lib.run_unsafeSliceData_row _ _ _ _ _ _ (by have := hrow.hcap; simp at this; omega), .raw _ _ _ _ _ (by simp) hv⟩
  · cases hx

theorem mapM_byteOf : ∀ (xs : List AV) (bs : List UInt8), xs.mapM byteOf = some bs → xs = bs.map fun b => AV.int .u8 b.toNat
  | [], bs, h => by simp at h; subst h; rfl
  | x :: xs, bs, h => by
    rw [List.mapM_cons] at h
    simp only [Option.bind_eq_bind, Option.bind_eq_some_iff, Option.pure_def, Option.some.injEq] at h
    obtain ⟨b, hb, cs, hcs, rfl⟩ := h
    rw [List.map_cons, ← mapM_byteOf xs cs hcs]
    congr 1
    unfold byteOf at hb
    split at hb
    · split at hb
      · rename_i n hn
        cases hb
        have h1 : (n.toNat.toUInt8).toNat = n.toNat := by
          show (UInt8.ofNat n.toNat).toNat = _
          rw [UInt8.toNat_ofNat']
          exact Nat.mod_eq_of_lt (by omega)
        rw [h1]
        congr 1
        omega
      · cases hb
    · cases hb

theorem rawStrA_ok (h : Sim B e hp) {pt it ty : TypeId} {x n r : AV} {xv nv : Value} (hv : Rd e x xv) (hn : Rd e n nv) (hx : rawStrA C pt x n hp = some r) :
    ∃ e' u, (Builtin.unsafeString_ #[pt, it] ty #[xv, nv]).run C.P e.w = .ok u e'.w ∧ Rd e' r u ∧ Sim B e' hp ∧ Adv e e' := by
  unfold rawStrA at hx
  split at hx
  · cases hx
    cases hv
    cases hn
    exact ⟨e, _, Lib.run_unsafeString_none _ _ _ _ _, .str _, h, .refl e⟩
  · rename_i t xs k
    cases hn
    cases hv with
    | raw _ _ a len cap hne hown =>
    split at hx
    case h_2 => cases hx
    rename_i el m el' hu htok
    split at hx
    case isFalse => cases hx
    rename_i hc
    obtain ⟨rfl, rfl, rfl, c3, c4⟩ := hc
    simp only [Option.map_eq_some_iff] at hx
    obtain ⟨bs, hbs, rfl⟩ := hx
    have hxs := mapM_byteOf xs bs hbs
    cases hown with
    | own _ _ _ tk hl ht hle hk hvv =>
      obtain ⟨h1, h2⟩ := h.tok t tk ht
      rw [htok] at h1
      simp only [Option.some.injEq, Prod.mk.injEq] at h1
      have hm := h1.1
      have hpos : 0 < tk.m := by rw [← hm]; exact List.length_pos_iff.2 hne
      have htv := hvv hm
      rcases h2 with ⟨h0, _⟩ | ⟨_, hk0, g, cap', cur, el', fz, hv', hBg, ⟨hcur, hel, hfz⟩, hcs, hcap, hSg, hβg⟩
      · omega
      rw [hel] at h1
      obtain rfl : el = el' := Option.some.inj h1.2
      have hk1 : tk.k = 1 := by
        cases xs with
        | nil => exact absurd rfl hne
        | cons y ys =>
          have := hk y (by simp)
          rw [← this]
          cases bs with
          | nil => simp at hxs
          | cons b bs => simp at hxs; rw [hxs.1]; rfl
      rw [hv'] at htv
      simp only [Value.slice.injEq, Option.some.injEq] at htv
      obtain ⟨rfl, rfl, rfl⟩ := htv
      obtain ⟨_, A, cap2, k2, vf, hrow⟩ := hl.list_inv
      have hrv := hrow.hv
      simp only [Value.slice.injEq] at hrv
      obtain ⟨rfl, hlen2, rfl⟩ := hrv
      have hk2 : k2 = 1 := by
        cases xs with
        | nil => exact absurd rfl hne
        | cons y ys => rw [← hrow.hk y (by simp), hk y (by simp), hk1]
      subst hk2
      have hlb : xs.length = bs.length := by rw [hxs]; simp
      have hcell : ∀ j b, bs[j]? = some b → e.w.cell? ((⟨g, 0, none⟩ : Addr).add j) = some (.int .u8 b.toNat) := fun j b hb => by
        have hj : j < xs.length := by rw [hlb]; exact (List.getElem?_eq_some_iff.1 hb).1
        have hxj : xs[j]? = some (.int .u8 b.toNat) := by rw [hxs, List.getElem?_map, hb]; rfl
        have := hrow.hc _ j 0 rfl hj (by omega)
        simp only [Nat.mul_one, Nat.add_zero] at this
        rw [this.2]
        have hr := hrow.hr j 0 _ _ hxj (show (AV.int .u8 b.toNat).cells[0]? = some _ from rfl)
        generalize vf j 0 = u at hr
        cases hr
        rfl
      have hrun := Lib.run_unsafeString_row (P := C.P) e.w pt it ty el hu c4 g cur.size (by simp [World.shape?, hcur]) bs (by intro h0; subst h0; simp at hxs; exact hne hxs) (by rw [hcs, hk1, ← hlb, hm]; simpa using hcap) (by omega) hcell
      obtain ⟨s1, a1⟩ := step_freeze (n := bs.length) h ht hv' hpos (by rw [hk1, ← hm, hlb]; omega)
      refine ⟨_, _, ?_, .str _, s1, a1⟩
      rw [← hrun, hlb]
  · cases hx

theorem makeSliceA_ok (h : Sim B e hp) {t : TypeId} {n m r : AV} {nv mv : Value} {hp' : Hp} (hn : Rd e n nv) (hm : Rd e m mv) (hx : makeSliceA C t n m hp = some (r, hp')) :
    ∃ e' u, (Instr.makeSlice t nv mv).run C.P e.w = .ok u e'.w ∧ Rd e' r u ∧ Sim B e' hp' ∧ Adv e e' := by
  unfold makeSliceA at hx
  split at hx
  case h_2 => cases hx
  rename_i elem k1 a k2 b hu
  cases hn
  cases hm
  split at hx
  case h_2 => cases hx
  rename_i bb hb
  split at hx
  case isFalse => cases hx
  rename_i hc
  obtain ⟨rfl, c1, c2, c3⟩ := hc
  unfold buildSliceA at hx
  simp only [hu] at hx
  split at hx
  case h_2 => cases hx
  rename_i s zero hs hz
  split at hx
  case isFalse => cases hx
  rename_i hcond
  obtain ⟨hzl, hs0, hlim⟩ := hcond
  simp only [fillA] at hx
  split at hx
  case isFalse => cases hx
  rename_i hone
  simp only [Option.map_eq_some_iff] at hx
  obtain ⟨xs, hxs, hx⟩ := hx
  simp only [sz, Option.map_eq_some_iff] at hs
  obtain ⟨i, hi, rfl⟩ := hs
  simp only [bytesOf, hi, Option.map_some, Option.some.injEq] at hb
  subst hb
  simp only [zeroCells, hi, Option.bind_some, Option.map_eq_some_iff] at hz
  obtain ⟨z, hiz, rfl⟩ := hz
  have hz := zeros_rd e z a.toNat i.size hzl hs0
  obtain ⟨h1, h2, h3⟩ := chop_ok _ i.size a.toNat _ xs (rep_length _ _ hzl _) hone hxs
  obtain ⟨e2, hw2, hr2, hs2, ha2⟩ := newRowA_ok h xs (madeCells z.cells (a.toNat * i.size)) elem i.size hs0 h3 (by rw [h2]; exact hz)
  rw [hx, h1] at hr2
  rw [hx] at hs2
  have hbb : (i.bytes : Int) * a ≤ 281474976710656 := by
    have h1 : (i.bytes : Int) * a ≤ 65536 * 65536 := Int.mul_le_mul (by omega) c2 (by omega) (by omega)
    omega
  refine ⟨e2, _, ?_, hr2, hs2, ha2⟩
  rw [run_makeSlice _ t elem i z hu hi hiz _ _ a a (by omega) (Int.le_refl _) hlim hbb (by omega), hw2]

end Go.Proofs.YtkddphdhcejdaaaDoor.AI
