/-
  Calls, and the whole: what the interpreter says, the program does.
-/
import Derived.Test.YtkddphdhcejdaaaDoorAiTa
set_option linter.unusedVariables false
set_option linter.unusedSimpArgs false
namespace Go.Proofs.YtkddphdhcejdaaaDoor.AI
open Go.RowKit
variable {C : Cfg} {B : Nat} {e : E} {hp : Hp}

/-- Functions that are answered by what is proved of them. -/
def PrimOk (C : Cfg) (B : Nat) : Prop := ∀ f F, C.prim f = some F → ∀ args hp r hp' e (vs : Array Value), F args hp = some (r, hp') → Sim B e hp → GlOk C e → CellsRd e args vs.toList →
  CanEnter C.P f ∧ CallsIn Fence.wide 0 C.P f vs e.w (Post B e r hp')

/-- One result. -/
def readRes (tmps : Array Value) : ResultVar → Sem Value
  | .tmp t => pure (tmps.getD t undef)
  | .cell a t => do loadVar t (← asAddr (tmps.getD a undef))

theorem resA_ok (h : Sim B e hp) (hg : GlOk C e) {env : List AV} {tmps : Array Value} (he : EnvOk e env tmps) : ∀ (rs : List ResultVar) (l : List AV), resA C env hp rs = some l →
    ∃ us : List Value, (rs.mapM (readRes tmps)).run C.P e.w = .ok us e.w ∧ CellsRd e l us
  | [], l, hx => by
    cases hx
    exact ⟨[], by simp, rfl, fun i x v hx => by simp at hx⟩
  | r :: rs, l, hx => by
    have cons : ∀ (x : AV) (l' : List AV) (v : Value), resA C env hp rs = some l' → l = x :: l' → (readRes tmps r).run C.P e.w = .ok v e.w → Rd e x v → ∃ us : List Value, ((r :: rs).mapM (readRes tmps)).run C.P e.w = .ok us e.w ∧ CellsRd e l us := by
      rintro x l' v hl' rfl hv hr
      obtain ⟨us, hu, hc⟩ := resA_ok h hg he rs l' hl'
      refine ⟨v :: us, by simp [List.mapM_cons, hv, hu], by simp [hc.1], fun i y u hy hu => ?_⟩
      cases i with
      | zero => simp at hy hu; subst hy hu; exact hr
      | succ i => exact hc.2 i y u (by simpa using hy) (by simpa using hu)
    have hev : ∀ t, Rd e (env.getD t .undef) (tmps.getD t undef) := fun t => ev_rd (a := { tmps := tmps, defers := [] }) hg he (.tmp t)
    cases r with
    | tmp t =>
      simp only [resA, Option.map_eq_some_iff] at hx
      obtain ⟨l', hl', rfl⟩ := hx
      exact cons _ _ _ hl' rfl (by simp [readRes]) (hev t)
    | cell a t =>
      simp only [resA] at hx
      split at hx
      case h_2 => cases hx
      rename_i x hload
      simp only [Option.map_eq_some_iff] at hx
      obtain ⟨l', hl', rfl⟩ := hx
      obtain ⟨v, hv, hr⟩ := loadA_ok (C := C) h (hev a) hload
      refine cons _ _ v hl' rfl ?_ hr
      have hp : ∃ ad, tmps.getD a undef = .pointer (some ad) := by
        have := hev a
        generalize tmps.getD a undef = pv at this
        unfold loadA at hload
        split at hload
        · rename_i heq; rw [heq] at this; cases this; exact ⟨_, rfl⟩
        · rename_i heq; rw [heq] at this; cases this; exact ⟨_, rfl⟩
        · cases hload
      obtain ⟨ad, hp⟩ := hp
      rw [hp] at hv
      simp only [readRes, hp, asAddr]
      simpa [Instr.loadAt, Instr.sureAddr] using hv

theorem results_eq (fn : Func) (tmps : Array Value) : results fn tmps = (do let vs ← fn.results.mapM (readRes tmps); pure (if h : vs.size = 1 then vs[0] else .tuple vs)) := by
  unfold results
  congr 2

theorem results_ok (h : Sim B e hp) (hg : GlOk C e) {env : List AV} {tmps : Array Value} (he : EnvOk e env tmps) {fn : Func} {l : List AV} (hx : resA C env hp fn.results.toList = some l) :
    ∃ v, (results fn tmps).run C.P e.w = .ok v e.w ∧ Rd e (packA l) v := by
  obtain ⟨us, hu, hc⟩ := resA_ok h hg he _ _ hx
  have harr : (fn.results.mapM (readRes tmps)).run C.P e.w = .ok us.toArray e.w := by
    generalize fn.results = rs at hu
    obtain ⟨rs⟩ := rs
    rw [List.mapM_toArray]
    simp [hu]
  rw [results_eq]
  simp only [Sem.run_bind, harr, Result.andThen_ok, Sem.run_pure]
  refine ⟨_, rfl, ?_⟩
  by_cases h1 : us.toArray.size = 1
  · rw [dif_pos h1]
    obtain ⟨u, rfl⟩ : ∃ u, us = [u] := List.length_eq_one_iff.1 (by simpa using h1)
    obtain ⟨x, rfl⟩ : ∃ x, l = [x] := List.length_eq_one_iff.1 (by have := hc.1; simpa using this.symm)
    exact hc.2 0 x u rfl rfl
  · rw [dif_neg h1]
    have hl : packA l = .tup l := by
      have h2 : l.length ≠ 1 := by have := hc.1; simp at h1; omega
      unfold packA
      split
      · simp at h2
      · rfl
    rw [hl]
    exact .tup _ _ (by have := hc.1; simpa using this) (fun i x v hx hv => hc.2 i x v hx (by simpa using hv))

theorem leaves_ok {e0 : E} {env : List AV} {tmps : Array Value} {fn : Func} {l : List AV} : ∀ (M : List Nat) (e : E), Sim B e hp → GlOk C e → Adv e0 e → EnvOk e env tmps → M.Nodup → (∀ r, r ∈ M → e.w.heap[r]? = some (.deferred (some [])) ∧ e0.w.heap.size ≤ r) →
    resA C env hp fn.results.toList = some l → LeavesInM Fence.wide 0 C.P fn tmps (Post B e0 (packA l) hp) (M.map fun r => { target := .collected r, args := #[] }) .returning e.w
  | [], e, h, hg, ha, he, hn, hM, hx => by
    obtain ⟨v, hv, hr⟩ := results_ok h hg he hx
    exact ⟨v, hv, e, v, rfl, rfl, hr, h, ha⟩
  | r :: M, e, h, hg, ha, he, hn, hM, hx => by
    obtain ⟨h1, h2⟩ := hM r List.mem_cons_self
    obtain ⟨s1, s2, s3⟩ := step_shut h ha h1 h2 (.deferred none)
    refine ⟨by simp, .inl ⟨r, _, rfl, run_takeDeferred h1, ?_⟩⟩
    refine leaves_ok M _ s1 (s3.2 hg) s2 (he.ext s3.1) (List.nodup_cons.1 hn).2 (fun q hq => ⟨?_, (hM q (List.mem_cons_of_mem _ hq)).2⟩) hx
    refine (World.putObj_heap_other (fun hqr : q = r => ?_)).trans (hM q (List.mem_cons_of_mem _ hq)).1
    subst hqr
    exact (List.nodup_cons.1 hn).1 hq

theorem bodyStep_ok {fuel : Nat} {rec : Rec} (hrec : RecOk C B fuel rec) (hm : C.P.follows .mixedOrders = true) {f : FuncId} {args : List AV} {r : AV} {hp' : Hp} {vs : Array Value}
    (hx : bodyStep C rec f args hp = some (r, hp')) (h : Sim B e hp) (hg : GlOk C e) (ha : CellsRd e args vs.toList) : CanEnter C.P f ∧ CallsIn Fence.wide 0 C.P f vs e.w (Post B e r hp') := by
  unfold bodyStep at hx
  split at hx
  case h_2 => cases hx
  rename_i fn hfn
  split at hx
  case h_2 => cases hx
  rename_i c hbody
  split at hx
  case isTrue => cases hx
  rename_i hname
  have hce : CanEnter C.P f := ⟨fn, hfn, by simp [hbody], by simpa using hname⟩
  refine ⟨hce, ?_⟩
  have hlen : vs.size = args.length := by have := ha.1; simpa using this
  have henv : EnvOk e (args ++ List.replicate (fn.ntmps - args.length) .undef) (vs ++ Array.replicate (fn.ntmps - vs.size) undef) := by
    refine ⟨by simp [hlen], fun i x v hx hv => ?_⟩
    by_cases hi : i < args.length
    · rw [List.getElem?_append_left hi] at hx
      rw [Array.getElem?_append_left (by omega)] at hv
      exact ha.2 i x v hx (by simpa using hv)
    · rw [List.getElem?_append_right (by omega), List.getElem?_replicate] at hx
      split at hx
      · cases hx; exact .undef v
      · cases hx
  cases hc : cd C rec (C.km f) c (args ++ List.replicate (fn.ntmps - args.length) .undef) hp with
  | none => rw [hc] at hx; cases hx
  | some res =>
    obtain ⟨x, env, hp1⟩ := res
    rw [hc] at hx
    refine callsIn_of_wp_marks hfn hbody trivial ?_
    have hw := cd_ok hrec hm (C.km f) c (rd := none) (M := []) hc h hg (a := { tmps := vs ++ Array.replicate (fn.ntmps - vs.size) undef, defers := [] }) henv ⟨rfl, List.nodup_nil, fun r hr => by cases hr⟩ (fun k hk => by cases hk)
    refine wpIn_mono hw fun ex a1 w1 hq => ?_
    obtain ⟨e1, M1, rfl, rfl, h3, h4, h5, h6, h7, h8⟩ := hq
    have fin : ∀ l : List Nat, (resA C env hp1 fn.results.toList).map (fun l => (packA l, hp1)) = some (r, hp') → LeavesInM Fence.wide 0 C.P fn a1.tmps (Post B e r hp') a1.defers .returning e1.w := by
      intro _ hx
      simp only [Option.map_eq_some_iff, Prod.mk.injEq] at hx
      obtain ⟨l, hl, rfl, rfl⟩ := hx
      rw [h6]
      exact leaves_ok M1 e1 h4 (hg.mono h5) h5 h3 h7 (fun q hq => ⟨(h8 q hq).1, (h8 q hq).2.resolve_left (by simp)⟩) hl
    cases x with
    | exit id => cases hx
    | normal => exact fin [] hx
    | ret => exact fin [] hx

theorem coreStep_ok {fuel : Nat} {rec : Rec} (hrec : RecOk C B fuel rec) (hm : C.P.follows .mixedOrders = true) {f : FuncId} {args : List AV} {r : AV} {hp' : Hp} {vs : Array Value}
    (hx : coreStep C rec f args hp = some (r, hp')) (h : Sim B e hp) (hlk : e.lb = 0 ∧ e.lt = 0 ∧ e.ll = 0) (hg : GlOk C e) (ha : CellsRd e args vs.toList) : CanEnter C.P f ∧ CallsIn Fence.wide 0 C.P f vs e.w
      (fun en w' => ∃ e' v, e'.w = w' ∧ en = .returned v ∧ Rd e' r v ∧ Sim B e' hp' ∧ Adv e e' ∧ hp.boxes.length ≤ hp'.boxes.length ∧ hp.toks.length ≤ hp'.toks.length ∧ hp.loops.length ≤ hp'.loops.length) := by
  unfold coreStep at hx
  split at hx
  case h_2 => cases hx
  rename_i r1 h1 hb
  obtain ⟨hce, hc⟩ := bodyStep_ok hrec hm hb h hg ha
  refine ⟨hce, hc.mono ?_⟩
  rintro en w' ⟨e1, v, rfl, rfl, hr, hs, had⟩
  unfold gcA at hx
  simp only at hx
  split at hx
  case isFalse => cases hx
  rename_i hok
  obtain ⟨hok, hb', ht', hl'⟩ := hok
  generalize selOf h1 _ _ = s at hx hok hb' ht' hl'
  cases hx
  have ho := selOk hok
  have hlen : ∀ (l : List Nat) (n : Nat), l.take n = List.range n → n ≤ l.length := fun l n h => by
    have := congrArg List.length h
    simp only [List.length_take, List.length_range] at this
    omega
  refine ⟨packE e1 s, v, rfl, rfl, ?_, pack_sim hs ho, gc_adv h hlk had ho hb' ht' hl', by simpa [Sel.hp] using hlen _ _ hb', by simpa [Sel.hp] using hlen _ _ ht', by simpa [Sel.hp] using hlen _ _ hl'⟩
  refine hr.ren (packE_ren s) ?_
  have := ho.roots
  simpa [AV.covs] using this

theorem canonA_ok {x : AV} {v : Value} (h : Rd e x v) : Rd e (canonA x) v := by
  unfold canonA
  split
  · exact toData_ok _ _ h ‹_›
  · exact h

theorem handed_ok {f : FuncId} {args : List AV} {vs : List Value} (h : CellsRd e args vs) : CellsRd e (handed C f args) vs := by
  unfold handed
  split
  · exact h
  · refine ⟨by simpa using h.1, fun i x v hx hv => ?_⟩
    rw [List.getElem?_map, Option.map_eq_some_iff] at hx
    obtain ⟨x0, h0, rfl⟩ := hx
    exact canonA_ok (h.2 i x0 v h0 hv)

theorem callStep_ok {fuel : Nat} {rec : Rec} (hrec : RecOk C B fuel rec) (hm : C.P.follows .mixedOrders = true) (hprim : PrimOk C B) {f : FuncId} {args : List AV} {r : AV} {hp' : Hp} {vs : Array Value}
    (hx : callStep C rec f args hp = some (r, hp')) (h : Sim B e hp) (hg : GlOk C e) (hd : GlData C) (ha : CellsRd e args vs.toList) : CanEnter C.P f ∧ CallsIn Fence.wide 0 C.P f vs e.w (Post B e r hp') := by
  unfold callStep at hx
  split at hx
  case h_1 F hF => exact hprim f F hF args hp r hp' e vs hx h hg ha
  simp only at hx
  split at hx
  case isFalse => cases hx
  rename_i hok
  generalize selOf hp _ _ = s at hx hok
  have ho := selOk hok
  split at hx
  case h_2 => cases hx
  rename_i r1 h1 hcore
  cases hx
  have hglp : GlOk C (packE e s) := fun g cs hc => by
    obtain ⟨q1, q2⟩ := hg g cs hc
    refine ⟨?_, q2⟩
    have hz := hd g cs 0 0 0 hc
    exact q1.zero (packE e s) rfl (fun _ h => h) (by simpa [AV.under] using hz)
  have hs := pack_sim h ho
  obtain ⟨hce, hc⟩ := coreStep_ok hrec hm hcore hs ⟨rfl, rfl, rfl⟩ hglp (vs := vs) ((handed_ok ha).ren (packE_ren s) ho.roots)
  refine ⟨hce, hc.mono ?_⟩
  rintro en w' ⟨e1, v, rfl, rfl, hr, hs1, had, l1, l2, l3⟩
  have hl : s.bs.length ≤ h1.boxes.length ∧ s.ts.length ≤ h1.toks.length ∧ s.ls.length ≤ h1.loops.length := by
    simp only [Sel.hp, List.length_map] at l1 l2 l3
    exact ⟨l1, l2, l3⟩
  obtain ⟨q1, q2, q3⟩ := embed_ok h ho hs1 had hl hr
  exact ⟨embE e e1 s hp, v, rfl, rfl, q1, q2, q3⟩

/-- What the interpreter says, the program does. -/
theorem ai_ok (hm : C.P.follows .mixedOrders = true) (hd : GlData C) (hprim : PrimOk C B) : ∀ k, RecOk C B k (ai C k)
  | 0 => ⟨fun _ _ _ _ _ _ _ h => (by cases h), fun _ _ _ _ _ _ _ _ _ _ _ _ _ _ _ h => (by cases h), fun _ _ _ _ _ _ _ _ h => (by cases h)⟩
  | k + 1 =>
    have ih := ai_ok hm hd hprim k
    ⟨fun f args hp r hp' e vs hx h hg ha => callStep_ok ih hm hprim hx h hg hd ha,
      fun km keep n t l body env hp x env' hp' e a M rd hx h hg he hM hrd => loopStep_ok ih hm hd hx h hg he hM hrd,
      fun l args hp r hp' e vs kk hx h hg ha hk => roundStep_ok ih hm hx h hg ha hk⟩

end Go.Proofs.YtkddphdhcejdaaaDoor.AI
