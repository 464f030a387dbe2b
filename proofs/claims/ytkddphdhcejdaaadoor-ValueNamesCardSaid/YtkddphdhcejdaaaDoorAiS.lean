/-
  Code: what the interpreter says of it, it comes to.
-/
import Derived.Test.YtkddphdhcejdaaaDoorAiR
import Derived.Scope
set_option linter.unusedVariables false
set_option linter.unusedSimpArgs false
namespace Go.Proofs.YtkddphdhcejdaaaDoor.AI
open Go.RowKit
variable {C : Cfg} {B : Nat} {e : E} {hp : Hp}

theorem CodePost.trans {e1 : E} {x : AX} {env' : List AV} {hp' : Hp} {M M1 : List Nat} {ex : Exit} {a' : Act} {w' : World} (ha : Adv e e1) (hM : ∀ r, r ∈ M1 → r ∈ M ∨ e.w.heap.size ≤ r) (h : CodePost B e1 x env' hp' M1 ex a' w') :
    CodePost B e x env' hp' M ex a' w' := by
  obtain ⟨e', M', h1, h2, h3, h4, h5, h6, h7, h8⟩ := h
  refine ⟨e', M', h1, h2, h3, h4, ha.trans h5, h6, h7, fun r hr => ⟨(h8 r hr).1, ?_⟩⟩
  rcases (h8 r hr).2 with h | h
  · exact hM r h
  · exact .inr (Nat.le_trans ha.size h)

theorem MarksOk.mono {e' : E} {a a' : Act} {M : List Nat} (hM : MarksOk e.w a M) (ha : Adv e e') (h : Sim B e hp) (hd : a'.defers = a.defers) : MarksOk e'.w a' M :=
  ⟨hd.trans hM.1, hM.2.1, fun r hr => ha.deferred h (hM.2.2 r hr)⟩

theorem RdOk.mono {e' : E} {rd : Option Nat} (h : RdOk e rd) (ha : Adv e e') : RdOk e' rd := fun k hk => let ⟨r, hr⟩ := h k hk; ha.lo k r hr

theorem CodePost.plain {e' : E} {x : AX} {env' : List AV} {hp' : Hp} {M : List Nat} {a a' : Act} (hM : MarksOk e.w a M) (h0 : Sim B e hp) (h1 : EnvOk e' env' a'.tmps) (h2 : Sim B e' hp') (h3 : Adv e e') (h4 : a'.defers = a.defers) :
    CodePost B e x env' hp' M (exOf x) a' e'.w :=
  ⟨e', M, rfl, rfl, h1, h2, h3, h4.trans hM.1, hM.2.1, fun r hr => ⟨h3.deferred h0 (hM.2.2 r hr), .inl hr⟩⟩

/-- A range over a function. -/
theorem range_ok {fuel : Nat} {rec : Rec} (hrec : RecOk C B fuel rec) {km : List (Nat × List Nat)} {f : Operand} {ps : Array Tmp} {assign body : Code} {rd : Option Nat} {env : List AV} {x : AX} {env' : List AV} {hp' : Hp} {a : Act} {M : List Nat}
    (hx : cd C rec km (.rangeFunc f ps assign body) env hp = some (x, env', hp')) (h : Sim B e hp) (hg : GlOk C e) (he : EnvOk e env a.tmps) (hM : MarksOk e.w a M) (hrd : RdOk e rd) :
    (Code.rangeFunc f ps assign body).wpIn (FW rd) 0 C.P (CodePost B e x env' hp' M) a e.w := by
  simp only [cd] at hx
  split at hx
  case h_2 => cases hx
  rename_i v0 hp1 hcall
  split at hx
  case h_2 => cases hx
  rename_i r hr
  split at hx
  case isTrue => cases hx
  rename_i hbi
  have hbusy : ¬ r.state = .busy := fun hh => hbi (.inl hh)
  have hit : r.it = none := Option.not_isSome_iff_eq_none.1 (fun hh => hbi (.inr hh))
  unfold rangeA at hcall
  split at hcall
  case h_2 => cases hcall
  rename_i g cap hf
  have hfr := ev_rd hg he f
  rw [hf] at hfr
  generalize hfv : a.eval f = fv at hfr
  cases hfr with
  | fn _ _ vs hn hvr =>
  refine wpIn_rangeFunc fun fn _ => ?_
  -- the record is laid
  obtain ⟨e1, l, mark, o, hrun, hmark, hlp, hsim1, hadv1⟩ : ∃ (e1 : E) (l : Nat) (mark : List Deferred) (M1 : List Nat), (Instr.enterLoop fn a.tmps ps assign body rd).run C.P e.w = .ok (l, mark) e1.w ∧
      (mark ++ a.defers = M1.map (fun r => { target := .collected r, args := #[] }) ∧ M1.Nodup ∧ ∀ r, r ∈ M1 → e1.w.heap[r]? = some (.deferred (some [])) ∧ (r ∈ M ∨ e.w.heap.size ≤ r)) ∧
      e1.lp hp.loops.length = some l ∧ Sim B e1 { hp with loops := hp.loops ++ [{ env, params := ps.toList, km, assign, body, state := .ready, pending := none }] } ∧ Adv e e1 := by
    cases rd with
    | none =>
      have ha0 := adv_alloc h (.deferred (some []))
      have hs0 := sim_alloc h (.deferred (some []))
      obtain ⟨e1, w1, l1, s1, a1⟩ := step_loop (r := { env, params := ps.toList, km, assign, body, state := .ready, pending := none }) (f := fn) (tmps := a.tmps) (df := e.w.heap.size) hs0 (fun _ => he.mono ha0) rfl
      refine ⟨e1, _, _, e.w.heap.size :: M, run_enterLoop_outer _ _ _ _ _ |>.trans (by rw [w1]; rfl), ⟨?_, ?_, ?_⟩, ?_, s1, ha0.trans a1⟩
      · rw [hM.1]; rfl
      · refine List.nodup_cons.2 ⟨fun hm => ?_, hM.2.1⟩
        have := lt_of_heap (hM.2.2 _ hm)
        omega
      · intro r hr
        rcases List.mem_cons.1 hr with rfl | hr
        · exact ⟨a1.deferred hs0 (heap_alloc_eq _ _), .inr (Nat.le_refl _)⟩
        · exact ⟨(ha0.trans a1).deferred h (hM.2.2 r hr), .inl hr⟩
      · rw [l1]; simp
    | some k0 =>
      obtain ⟨r0, hh0⟩ := hrd k0 rfl
      obtain ⟨e1, w1, l1, s1, a1⟩ := step_loop (r := { env, params := ps.toList, km, assign, body, state := .ready, pending := none }) (f := fn) (tmps := a.tmps) (df := r0.defers) h (fun _ => he) rfl
      refine ⟨e1, _, _, M, run_enterLoop_inner hh0 _ _ _ _ _ |>.trans (by rw [w1]; rfl), ⟨?_, hM.2.1, fun r hr => ⟨a1.deferred h (hM.2.2 r hr), .inl hr⟩⟩, l1, s1, a1⟩
      rw [← hM.1]; rfl
  have hargs : CellsRd e1 (.yield hp.loops.length :: cap) ((#[.func (.yield l) #[] #[]] ++ vs : Array Value)).toList := by
    rw [Array.toList_append]
    refine CellsRd.append (xs := [.yield hp.loops.length]) (us := [.func (.yield l) #[] #[]]) ⟨rfl, fun i x v hx hv => ?_⟩ ⟨by rw [Array.length_toList]; exact hn, fun i x v hx hv => (hvr i x v hx (by simpa using hv)).mono hadv1⟩
    cases i with
    | zero => simp at hx hv; subst hx hv; exact .yield _ _ hlp
    | succ i => simp at hx
  obtain ⟨hce, hc⟩ := hrec.call g _ _ v0 hp1 e1 _ hcall hsim1 (hg.mono hadv1) hargs
  refine ⟨l, mark, e1.w, { target := .fn (.func g) vs, args := #[] ++ #[.func (.yield l) #[] #[]] }, e1.w, g, (#[.func (.yield l) #[] #[]] ++ vs), e1.w, hrun, ?_, fun _ _ => trivial, ?_, fun hh => (by cases hh), ?_⟩
  · simp [resolve, rangeCall, hfv, Deferred.ofValue]; rfl
  · simp [invoke, callFunc_run hce]
  have hc' : CallsIn (FW rd) (0 - 1) C.P g (#[.func (.yield l) #[] #[]] ++ vs) e1.w (Post B e1 v0 hp1) := hc
  refine hc'.mono ?_
  rintro en w2 ⟨e2, v2, rfl, rfl, hv2, hsim2, hadv2⟩
  obtain ⟨_, r2, f2, tm2, df2, hr2, hobj2, he2⟩ := hsim2.loop _ _ (hadv2.lp _ _ hlp)
  rw [hr] at hr2
  cases hr2
  have hh2 := hobj2
  simp only [LR.obj, hit] at hh2
  have hsplit : (r.pending = none ∧ x = .normal ∨ r.pending = some .ret ∧ x = .ret ∨ ∃ id, r.pending = some (.exit id) ∧ x = .exit id) ∧ env' = env ∧
      hp' = { hp1 with loops := hp1.loops.set hp.loops.length { r with state := .exhausted } } := by
    split at hx
    · rename_i hp; cases hx; exact ⟨.inl ⟨hp, rfl⟩, rfl, rfl⟩
    · rename_i hp; cases hx; exact ⟨.inr (.inl ⟨hp, rfl⟩), rfl, rfl⟩
    · rename_i hp; cases hx; exact ⟨.inr (.inr ⟨_, hp, rfl⟩), rfl, rfl⟩
    · cases hx
  obtain ⟨hpend, rfl, hpeq⟩ := hsplit
  obtain ⟨hsim3, hadv3⟩ := step_setloop (r' := { r with state := .exhausted }) hsim2 (hadv2.lp _ _ hlp) hr hobj2 (fun _ => he2 hit) (fun _ => hit) rfl
  obtain ⟨w3, hw3, hend⟩ : ∃ w3, w3 = e2.w.putObj l (LR.obj { r with state := .exhausted } f2 tm2 df2) ∧ (Instr.endLoop l).run C.P e2.w = .ok r.pending w3 := ⟨_, rfl, by simp only [LR.obj, hit]; exact run_endLoop (P := C.P) hh2 hbusy⟩
  have hadv := (hadv1.trans hadv2).trans hadv3
  have post : ∀ x, CodePost B e x env' hp' M (exOf x) { a with defers := mark ++ a.defers } w3 := fun x => by
    rw [hpeq, hw3]
    exact ⟨_, o, rfl, rfl, he.mono hadv, hsim3, hadv, hmark.1, hmark.2.1, fun r' hr' => ⟨(hadv2.trans hadv3).deferred hsim1 (hmark.2.2 r' hr').1, (hmark.2.2 r' hr').2⟩⟩
  refine ⟨r.pending, w3, hend, ?_⟩
  rcases hpend with ⟨h1, rfl⟩ | ⟨h1, rfl⟩ | ⟨id, h1, rfl⟩ <;> rw [h1]
  · exact post .normal
  · exact wpIn_ret (post .ret)
  · exact wpIn_exit (post (.exit _))

theorem block_fin {id : Nat} {c : Code} {res : Option (AX × List AV × Hp)} {rd : Option Nat} {x : AX} {env' : List AV} {hp' : Hp} {a : Act} {M : List Nat}
    (hx : (match res with
      | some (.exit j, env, hp) => if j = id then some (.normal, env, hp) else some (.exit j, env, hp)
      | r => r) = some (x, env', hp')) (key : ∀ x1 env1 hp1, res = some (x1, env1, hp1) → c.wpIn (FW rd) 0 C.P (CodePost B e x1 env1 hp1 M) a e.w) :
    c.wpIn (FW rd) 0 C.P (Exit.inBlock id (CodePost B e x env' hp' M)) a e.w := by
  cases res with
  | none => cases hx
  | some r =>
    obtain ⟨x1, env1, hp1⟩ := r
    refine wpIn_mono (key _ _ _ rfl) fun ex a1 w1 hq => ?_
    have hex : ex = exOf x1 := hq.choose_spec.choose_spec.2.1
    subst hex
    cases x1 with
    | normal =>
      simp only [Option.some.injEq, Prod.mk.injEq] at hx
      obtain ⟨rfl, rfl, rfl⟩ := hx
      exact hq
    | ret =>
      simp only [Option.some.injEq, Prod.mk.injEq] at hx
      obtain ⟨rfl, rfl, rfl⟩ := hx
      exact hq
    | exit j =>
      simp only at hx
      simp only [exOf, Exit.inBlock]
      obtain ⟨e', M', h1, h2, h3⟩ := hq
      split at hx
      · rename_i hj
        simp only [Option.some.injEq, Prod.mk.injEq] at hx
        obtain ⟨rfl, rfl, rfl⟩ := hx
        rw [if_pos hj]
        exact ⟨e', M', h1, rfl, h3⟩
      · rename_i hj
        simp only [Option.some.injEq, Prod.mk.injEq] at hx
        obtain ⟨rfl, rfl, rfl⟩ := hx
        rw [if_neg hj]
        exact ⟨e', M', h1, h2, h3⟩

section
variable {P : Program} {b : Frame} {a : Act} {k : List Item} {cs : List Frame} {w : World} {F : Fence} {n : Nat} {Q : Exit → Act → World → Prop}
theorem stepR_scope {c : Code} : step P (lone (b.atR a (.code (.scope c) :: k)) cs w) = .next (lone (b.atR a (.code c :: .inScope c :: k)) cs w) :=
  step_lone_go (by simp [stepG, stepG.exec, Frame.atR])
theorem stepR_inScope {c : Code} : step P (lone (b.atR a (.inScope c :: k)) cs w) = .next (lone (b.atR a k) cs w) :=
  step_lone_go (by simp [stepG, stepG.exec, Frame.atR])
theorem wpIn_scope_straight {c : Code} (h : c.wpIn F n P (Exit.noGoto Q) a w) : (Code.scope c).wpIn F n P Q a w := by
  intro b k cs hro hb hr
  have h0 : (lone (b.atR a (.code (.scope c) :: k)) cs w).fenced P F := fenced_calm hb hr rfl
  obtain ⟨e, a₁, w₁, hq, harr⟩ := h b (.inScope c :: k) cs hro hb hr
  cases e with
  | normal => exact ⟨.normal, a₁, w₁, hq, .head h0 stepR_scope (StepsIn.trans harr (.one (fenced_calm hb hr rfl) stepR_inScope))⟩
  | exit id =>
    have hx : exitTo id (.inScope c :: k) = exitTo id k := by simp [exitTo]
    exact ⟨.exit id, a₁, w₁, hq, fun k' hk => .head h0 stepR_scope (harr.1 k' (by rw [hx]; exact hk)), fun hr' hk => let ⟨k₁, h1, h2⟩ := harr.2 hr' (by rw [hx]; exact hk); ⟨k₁, h1, .head h0 stepR_scope h2⟩⟩
  | goto l => exact hq.elim
  | ret => exact ⟨_, a₁, w₁, hq, .of_steps (.one h0 stepR_scope) harr⟩
  | panic ch => exact ⟨_, a₁, w₁, hq, .of_steps (.one h0 stepR_scope) harr⟩
  | outgrown => exact ⟨_, a₁, w₁, hq, .of_steps (.one h0 stepR_scope) harr⟩
end

/-- What is left behind a loop. -/
theorem outF_ok {e1 : E} {hp1 : Hp} (h0 : Sim B e hp) (h : Sim B e1 hp1) (ha : Adv e e1) {env : List AV} {tmps : Array Value} (he : EnvOk e1 env tmps) (ok : Option (List Nat)) :
    ∃ e2, e2.w = e1.w ∧ EnvOk e2 (outF ok hp.boxes.length hp.toks.length hp.loops.length env hp1).1 tmps ∧ Sim B e2 (outF ok hp.boxes.length hp.toks.length hp.loops.length env hp1).2 ∧ Adv e e2 := by
  unfold outF
  split
  · exact ⟨e1, rfl, he, h, ha⟩
  · rename_i ks
    have fin : ∀ (t : Nat) (hp' : Hp), hp.toks.length ≤ t → trunc hp.boxes.length t hp.loops.length (mask ks 0 env) hp1 = some hp' →
        ∃ e2, e2.w = e1.w ∧ EnvOk e2 (mask ks 0 env) tmps ∧ Sim B e2 hp' ∧ Adv e e2 := fun t hp' hle ht => by
      obtain ⟨h1, h2⟩ := trunc_ok ht h (he.mask ks)
      refine ⟨e1.restrict hp.boxes.length t hp.loops.length, rfl, h2, h1, ?_⟩
      have hr := restrict_more h0 (Nat.le_refl _) hle (Nat.le_refl _)
      have := adv_restrict (e := e) (e1 := e1) (n := hp.boxes.length) (t := t) (l := hp.loops.length) (by rw [hr]; exact ha)
      rwa [hr] at this
    split
    · rename_i hp' ht
      exact fin _ hp' (Nat.le_refl _) ht
    · split
      · rename_i hp' ht
        split at ht
        · rename_i hle
          exact fin _ hp' hle ht
        · cases ht
      · exact ⟨e1, rfl, he.mask ks, h, ha⟩

theorem outM_some {ok : Option (List Nat)} {n t l : Nat} {r : Option (AX × List AV × Hp)} {x : AX} {env : List AV} {hp : Hp} (h : outM ok n t l r = some (x, env, hp)) :
    ∃ env1 hp1, r = some (x, env1, hp1) ∧ outF ok n t l env1 hp1 = (env, hp) := by
  unfold outM at h
  split at h
  · simp only [Option.some.injEq, Prod.mk.injEq] at h
    obtain ⟨rfl, h⟩ := h
    exact ⟨_, _, rfl, h⟩
  · cases h

theorem cd_ok {fuel : Nat} {rec : Rec} (hrec : RecOk C B fuel rec) (hm : C.P.follows .mixedOrders = true) (km : List (Nat × List Nat)) : ∀ (c : Code) {rd : Option Nat} {e : E} {env : List AV} {hp : Hp} {x : AX} {env' : List AV} {hp' : Hp} {a : Act} {M : List Nat},
    cd C rec km c env hp = some (x, env', hp') → Sim B e hp → GlOk C e → EnvOk e env a.tmps → MarksOk e.w a M → RdOk e rd → c.wpIn (FW rd) 0 C.P (CodePost B e x env' hp' M) a e.w := by
  intro c
  induction c with
  | skip =>
    intro rd e env hp x env' hp' a M hx h hg he hM hrd
    cases hx
    exact wpIn_skip (CodePost.plain hM h he h (.refl e) rfl)
  | region id ops draw =>
    intro rd e env hp x env' hp' a M hx h hg he hM hrd
    simp only [cd, Option.map_eq_some_iff, Prod.mk.injEq] at hx
    obtain ⟨⟨env1, hp1⟩, hx, rfl, rfl, rfl⟩ := hx
    cases draw with
    | true => exact regD_ok hrec rd hm hx h hg he _ fun e' a' h1 h2 h3 h4 => CodePost.plain (x := .normal) hM h h1 h2 h3 h4
    | false => exact wpIn_region_list (opsA_ok hrec rd _ hx h hg he _ fun e' a' h1 h2 h3 h4 => CodePost.plain (x := .normal) hM h h1 h2 h3 h4)
  | seq c d ihc ihd =>
    intro rd e env hp x env' hp' a M hx h hg he hM hrd
    simp only [cd] at hx
    refine wpIn_seq ?_
    cases hc : cd C rec km c env hp with
    | none => simp [hc] at hx
    | some r =>
      obtain ⟨x1, env1, hp1⟩ := r
      refine wpIn_mono (ihc hc h hg he hM hrd) fun ex a1 w1 hq => ?_
      cases x1 with
      | normal =>
        simp only [hc] at hx
        obtain ⟨e1, M1, rfl, rfl, h3, h4, h5, h6, h7, h8⟩ := hq
        exact wpIn_mono (ihd hx h4 (hg.mono h5) h3 ⟨h6, h7, fun r hr => (h8 r hr).1⟩ (hrd.mono h5)) fun ex a2 w2 hq => hq.trans h5 fun r hr => (h8 r hr).2
      | exit id =>
        simp only [hc, Option.some.injEq, Prod.mk.injEq] at hx
        obtain ⟨rfl, rfl, rfl⟩ := hx
        have hex := hq
        obtain ⟨_, _, _, rfl, _⟩ := hex
        exact hq
      | ret =>
        simp only [hc, Option.some.injEq, Prod.mk.injEq] at hx
        obtain ⟨rfl, rfl, rfl⟩ := hx
        have hex := hq
        obtain ⟨_, _, _, rfl, _⟩ := hex
        exact hq
  | cond c t f iht ihf =>
    intro rd e env hp x env' hp' a M hx h hg he hM hrd
    simp only [cd] at hx
    have hc := ev_rd hg he c
    split at hx
    case h_2 => cases hx
    rename_i b hb
    rw [hb] at hc
    generalize hcv : a.eval c = cv at hc
    cases hc
    refine wpIn_cond hcv ?_
    cases b
    · exact ihf hx h hg he hM hrd
    · exact iht hx h hg he hM hrd
  | block id c ih =>
    intro rd e env hp x env' hp' a M hx h hg he hM hrd
    simp only [cd] at hx
    refine wpIn_block ?_
    cases c
    case loop b =>
      refine block_fin hx fun x1 env1 hp1 h1 => ?_
      obtain ⟨env2, hp2, h1, hmk⟩ : ∃ env2 hp2, rec.loop km (keepOf km id) hp.boxes.length hp.toks.length hp.loops.length b env hp = some (x1, env2, hp2) ∧ outF (outK km id) hp.boxes.length hp.toks.length hp.loops.length env2 hp2 = (env1, hp1) := by
        exact outM_some h1
      have := hrec.loop km _ _ _ _ _ env hp x1 env2 hp2 e a M rd h1 h hg he hM (by rw [restrict_all h]; exact hrd)
      rw [restrict_all h] at this
      refine wpIn_mono (wpIn_loop_rounds _ this) fun ex a1 w1 hq => ?_
      obtain ⟨e', M', rfl, h2, h3, h4, h5, h6⟩ := hq
      obtain ⟨e2, g1, g2, g3, g4⟩ := outF_ok h h4 h5 h3 (outK km id)
      rw [hmk] at g2 g3
      exact ⟨e2, M', g1, h2, g2, g3, g4, h6⟩
    all_goals exact block_fin hx fun x1 env1 hp1 h1 => ih h1 h hg he hM hrd
  | loop c ih => intro rd e env hp x env' hp' a M hx; simp only [cd] at hx; cases hx
  | rangeFunc f ps assign body iha ihb =>
    intro rd e env hp x env' hp' a M hx h hg he hM hrd
    exact range_ok hrec hx h hg he hM hrd
  | exit id =>
    intro rd e env hp x env' hp' a M hx h hg he hM hrd
    cases hx
    exact wpIn_exit (CodePost.plain (x := .exit id) hM h he h (.refl e) rfl)
  | ret =>
    intro rd e env hp x env' hp' a M hx h hg he hM hrd
    cases hx
    exact wpIn_ret (CodePost.plain (x := .ret) hM h he h (.refl e) rfl)
  | scope c ih =>
    intro rd e env hp x env' hp' a M hx h hg he hM hrd
    simp only [cd] at hx
    exact wpIn_scope_straight (wpIn_mono (ih hx h hg he hM hrd) fun ex a1 w1 hq => by
      have hex : ex = exOf x := hq.choose_spec.choose_spec.2.1
      subst hex
      cases x <;> exact hq)
  | label l =>
    intro rd e env hp x env' hp' a M hx h hg he hM hrd
    cases hx
    exact wpIn_label (CodePost.plain hM h he h (.refl e) rfl)
  | goto l => intro rd e env hp x env' hp' a M hx; simp only [cd] at hx; cases hx
  | refuse s => intro rd e env hp x env' hp' a M hx; simp only [cd] at hx; cases hx

end Go.Proofs.YtkddphdhcejdaaaDoor.AI
