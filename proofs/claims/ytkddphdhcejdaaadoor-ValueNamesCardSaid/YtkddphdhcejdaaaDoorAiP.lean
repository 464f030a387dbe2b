/-
  A region whose order is drawn: it comes to the same in whatever order.
-/
import Derived.Test.YtkddphdhcejdaaaDoorAiO
import Derived.OrdersIn
set_option linter.unusedVariables false
set_option linter.unusedSimpArgs false
namespace Go.Proofs.YtkddphdhcejdaaaDoor.AI
open Go.RowKit
variable {C : Cfg} {B : Nat} {e : E} {hp : Hp}

mutual
theorem AV.beq_eq : ∀ a b : AV, a.beq b = true → a = b
  | .int k n, b, h => by cases b <;> simp [AV.beq] at h; obtain ⟨rfl, rfl⟩ := h; rfl
  | .bool x, b, h => by cases b <;> simp [AV.beq] at h; subst h; rfl
  | .str s, b, h => by
    cases b <;> simp [AV.beq] at h
    rename_i t
    obtain ⟨⟨s⟩⟩ := s
    obtain ⟨⟨t⟩⟩ := t
    simp at h
    rw [h]
  | .nils, b, h => by cases b <;> simp [AV.beq] at h; rfl
  | .list xs, b, h => by cases b <;> simp [AV.beq] at h; rw [AV.beqs_eq _ _ h]
  | .own t xs, b, h => by cases b <;> simp [AV.beq] at h; rw [h.1, AV.beqs_eq _ _ h.2]
  | .lits xs, b, h => by cases b <;> simp [AV.beq] at h; rw [AV.beqs_eq _ _ h]
  | .agg xs, b, h => by cases b <;> simp [AV.beq] at h; rw [AV.beqs_eq _ _ h]
  | .tup xs, b, h => by cases b <;> simp [AV.beq] at h; rw [AV.beqs_eq _ _ h]
  | .nilp, b, h => by cases b <;> simp [AV.beq] at h; rfl
  | .box x i, b, h => by cases b <;> simp [AV.beq] at h; rw [h.1, h.2]
  | .elem xs, b, h => by cases b <;> simp [AV.beq] at h; rw [AV.beqs_eq _ _ h]
  | .fn f xs, b, h => by cases b <;> simp [AV.beq] at h; rw [h.1, AV.beqs_eq _ _ h.2]
  | .yield l, b, h => by cases b <;> simp [AV.beq] at h; rw [h]
  | .iter l, b, h => by cases b <;> simp [AV.beq] at h; rw [h]
  | .raw t xs, b, h => by cases b <;> simp [AV.beq] at h; rw [h.1, AV.beqs_eq _ _ h.2]
  | .rawz, b, h => by cases b <;> simp [AV.beq] at h; rfl
  | .nilf, b, h => by cases b <;> simp [AV.beq] at h; rfl
  | .nili, b, h => by cases b <;> simp [AV.beq] at h; rfl
  | .errv, b, h => by cases b <;> simp [AV.beq] at h; rfl
  | .undef, b, h => by cases b <;> simp [AV.beq] at h; rfl
  | .no, b, h => by cases b <;> simp [AV.beq] at h; rfl
theorem AV.beqs_eq : ∀ a b : List AV, AV.beqs a b = true → a = b
  | [], [], _ => rfl
  | [], _ :: _, h => by simp [AV.beqs] at h
  | _ :: _, [], h => by simp [AV.beqs] at h
  | x :: xs, y :: ys, h => by
    simp [AV.beqs] at h
    rw [AV.beq_eq _ _ h.1, AV.beqs_eq _ _ h.2]
end

theorem settles_nil (l : List AV) (hp : Hp) (h : l.all (fun | .nils => false | _ => true) = true) : settles l hp = (l, hp) := by
  induction l with
  | nil => rfl
  | cons x xs ih =>
    simp only [List.all_cons, Bool.and_eq_true] at h
    have h1 : settle1 x hp = (x, hp) := by
      cases x <;> first | rfl | simp at h
    simp only [settles, h1, ih h.2]

theorem settle_none (x : AV) (hp : Hp) (h : noNils x = true) : settle x hp = (x, hp) := by
  cases x <;> first | rfl | (simp [noNils] at h; done) | skip
  case agg cs => simp only [settle, settles_nil cs hp h]

theorem still_hp {rec : Rec} {x : List AV} {o : Oper} {v : AV} {hp' : Hp} (hs : still C x o = true) (h : opA C rec x o hp = some (v, hp')) : hp' = hp := by
  unfold still at hs
  unfold opA at h
  dsimp only at h
  cases hop : o.op <;> rw [hop] at h hs <;> simp only [reduceCtorEq, Bool.false_eq_true] at h hs
  case move y => rw [settle_none _ _ hs] at h; cases h; rfl
  case assign y => rw [settle_none _ _ hs] at h; cases h; rfl
  case call c =>
    obtain ⟨callee, args, ats⟩ := c
    cases callee with
    | value f => simp at hs
    | invoke rv name => cases h
    | builtin b =>
      cases b <;> simp only [reduceCtorEq, Bool.false_eq_true] at h hs
      all_goals
      split at h
      · simp only [Option.map_eq_some_iff, Prod.mk.injEq] at h
        obtain ⟨_, _, _, h⟩ := h
        exact h.symm
      · cases h
  case makeFunc fn first cap =>
    cases fn <;> simp only [reduceCtorEq] at h
    split at h <;> first | (cases h; done) | (cases h; rfl)
  all_goals first
    | (simp only [Option.map_eq_some_iff, Prod.mk.injEq] at h; obtain ⟨_, _, _, h⟩ := h; exact h.symm)
    | (split at h <;> first | (cases h; rfl) | (simp only [Option.map_eq_some_iff, Prod.mk.injEq] at h; obtain ⟨_, _, _, h⟩ := h; exact h.symm) | (cases h; done))

theorem mask_spec (keep : List Nat) : ∀ (env : List AV) (i s : Nat) (x : AV), (mask keep i env)[s]? = some x → x = .undef ∨ (keep.contains (i + s) = true ∧ env[s]? = some x)
  | [], i, s, x, h => by simp [mask] at h
  | y :: ys, i, 0, x, h => by
    simp only [mask, List.getElem?_cons_zero, Option.some.injEq] at h
    split at h
    · rename_i hk
      subst h
      exact .inr ⟨by simpa using hk, rfl⟩
    · exact .inl h.symm
  | y :: ys, i, s + 1, x, h => by
    simp only [mask, List.getElem?_cons_succ] at h
    rcases mask_spec keep ys (i + 1) s x h with h | ⟨h1, h2⟩
    · exact .inl h
    · exact .inr ⟨by rw [← h1]; congr 1; omega, by simpa using h2⟩

theorem mask_length (keep : List Nat) : ∀ (env : List AV) (i : Nat), (mask keep i env).length = env.length
  | [], _ => rfl
  | _ :: ys, i => by simp [mask, mask_length keep ys (i + 1)]

theorem EnvOk.mask {env : List AV} {tmps : Array Value} (he : EnvOk e env tmps) (keep : List Nat) : EnvOk e (mask keep 0 env) tmps :=
  ⟨by rw [he.1, mask_length], fun i x v hx hv => by
    rcases mask_spec keep env 0 i x hx with rfl | ⟨_, h⟩
    · exact .undef v
    · exact he.2 i x v h hv⟩

def envOf (ts : List Ent) (env : List AV) : List AV := ts.foldl (fun env t => putA env t.o t.v) env

theorem putA_length (env : List AV) (o : Oper) (v : AV) : (putA env o v).length = env.length := by
  unfold putA
  split <;> simp

theorem envOf_length : ∀ (ts : List Ent) (env : List AV), (envOf ts env).length = env.length
  | [], _ => rfl
  | t :: ts, env => by
    show (envOf ts (putA env t.o t.v)).length = _
    rw [envOf_length ts, putA_length]

theorem putA_spec {env : List AV} {o : Oper} {v : AV} {s : Nat} {x : AV} (h : (putA env o v)[s]? = some x) : (o.dst = some s ∧ x = v) ∨ (o.dst ≠ some s ∧ env[s]? = some x) := by
  unfold putA at h
  cases hd : o.dst with
  | none => simp only [hd] at h; exact .inr ⟨by simp, h⟩
  | some d =>
    simp only [hd] at h
    rw [List.getElem?_set] at h
    split at h
    · rename_i hds
      subst hds
      split at h
      · exact .inl ⟨rfl, by simpa using h.symm⟩
      · cases h
    · rename_i hds
      exact .inr ⟨by simpa using hds, h⟩

theorem envOf_spec : ∀ (ts : List Ent) (env : List AV) (s : Nat) (x : AV), (envOf ts env)[s]? = some x → (∃ t, t ∈ ts ∧ t.o.dst = some s ∧ x = t.v) ∨ ((∀ t, t ∈ ts → t.o.dst ≠ some s) ∧ env[s]? = some x)
  | [], env, s, x, h => .inr ⟨by simp, h⟩
  | t :: ts, env, s, x, h => by
    rcases envOf_spec ts (putA env t.o t.v) s x h with ⟨t', h1, h2, h3⟩ | ⟨h1, h2⟩
    · exact .inl ⟨t', List.mem_cons_of_mem _ h1, h2, h3⟩
    · rcases putA_spec h2 with ⟨h3, h4⟩ | ⟨h3, h4⟩
      · exact .inl ⟨t, List.mem_cons_self, h3, h4⟩
      · refine .inr ⟨fun t' ht' => ?_, h4⟩
        rcases List.mem_cons.1 ht' with rfl | ht'
        · exact h3
        · exact h1 t' ht'

/-- How an operation went. -/
structure EntOk (C : Cfg) (rec : Rec) (ops : Array Oper) (ms : List Hp) (env : List AV) (t : Ent) : Prop where
  x : t.x = mask (looks ops t.o) 0 env
  w : wantA ops t.x t.o = some t.wt
  nw : t.wt = false → t.imp = false ∧ t.v = .no
  im : t.imp = true → ∃ h0 h1, ms[t.k]? = some h0 ∧ ms[t.k + 1]? = some h1 ∧ opA C rec t.x t.o h0 = some (t.v, h1)
  st : t.wt = true → t.imp = false → still C t.x t.o = true

theorem passA_spec {rec : Rec} {ops : Array Oper} : ∀ (l : List Oper) (env : List AV) (ms : List Hp) (k : Nat) (hp : Hp) (ts : List Ent) (env' : List AV) (ms' : List Hp) (hp' : Hp),
    passA C rec ops l env ms k hp = some (ts, env', ms', hp') → ms[k]? = some hp → ms.length = k + 1 →
    ts.map (·.o) = l ∧ env' = envOf ts env ∧ (∃ suf, ms' = ms ++ suf) ∧ ms'[ms'.length - 1]? = some hp' ∧ ∀ (j : Nat) (t : Ent), ts[j]? = some t → EntOk C rec ops ms' (envOf (ts.take j) env) t
  | [], env, ms, k, hp, ts, env', ms', hp', h, hk, hl => by
    cases h
    exact ⟨rfl, rfl, ⟨[], by simp⟩, by rw [hl]; simpa using hk, fun j t ht => by simp at ht⟩
  | o :: l, env, ms, k, hp, ts, env', ms', hp', h, hk, hl => by
    unfold passA at h
    dsimp only at h
    have lift : ∀ (v : AV) (ts' : List Ent) (t0 : Ent) (ms1 : List Hp), t0.o = o → t0.v = v → ts = t0 :: ts' → EntOk C rec ops ms' env t0 →
        (∀ (j : Nat) (t : Ent), ts'[j]? = some t → EntOk C rec ops ms' (envOf (ts'.take j) (putA env o v)) t) → ∀ (j : Nat) (t : Ent), ts[j]? = some t → EntOk C rec ops ms' (envOf (ts.take j) env) t := by
      rintro v ts' t0 ms1 ho hv rfl h0 hr j t ht
      cases j with
      | zero => simp at ht; subst ht; exact h0
      | succ j =>
        have := hr j t (by simpa using ht)
        simp only [List.take_succ_cons]
        show EntOk C rec ops ms' (envOf (ts'.take j) (putA env t0.o t0.v)) t
        rw [ho, hv]
        exact this
    split at h
    · rename_i hw
      split at h
      · rename_i v hp1 hop
        split at h
        · rename_i hst
          simp only [Option.map_eq_some_iff, Prod.mk.injEq] at h
          obtain ⟨⟨ts', env1, ms1, hp2⟩, h, rfl, rfl, rfl, rfl⟩ := h
          obtain ⟨i1, i2, i3, i4, i5⟩ := passA_spec l _ ms k hp ts' _ _ _ h hk hl
          refine ⟨by simp [i1], i2, i3, i4, lift v ts' _ ms rfl rfl rfl ⟨rfl, hw, fun h => (by cases h), fun h => (by cases h), fun _ _ => hst⟩ i5⟩
        · rename_i hst
          simp only [Option.map_eq_some_iff, Prod.mk.injEq] at h
          obtain ⟨⟨ts', env1, ms1, hp2⟩, h, rfl, rfl, rfl, rfl⟩ := h
          obtain ⟨i1, i2, ⟨suf, i3⟩, i4, i5⟩ := passA_spec l _ (ms ++ [hp1]) (k + 1) hp1 ts' _ _ _ h (by rw [← hl]; simp) (by simp [hl])
          refine ⟨by simp [i1], i2, ⟨hp1 :: suf, by simp [i3]⟩, i4, lift v ts' _ ms rfl rfl rfl ⟨rfl, hw, fun h => (by cases h), fun _ => ⟨hp, hp1, ?_, ?_, hop⟩, fun _ h => (by cases h)⟩ i5⟩
          · show ms'[k]? = _
            rw [i3, List.append_assoc, List.getElem?_append_left (by omega)]
            exact hk
          · show ms'[k + 1]? = _
            rw [i3, List.getElem?_append_left (by simp; omega), ← hl]
            simp
      · cases h
    · rename_i hw
      simp only [Option.map_eq_some_iff, Prod.mk.injEq] at h
      obtain ⟨⟨ts', env1, ms1, hp2⟩, h, rfl, rfl, rfl, rfl⟩ := h
      obtain ⟨i1, i2, i3, i4, i5⟩ := passA_spec l _ ms k hp ts' _ _ _ h hk hl
      refine ⟨by simp [i1], i2, i3, i4, lift .no ts' _ ms rfl rfl rfl ⟨rfl, hw, fun _ => ⟨rfl, rfl⟩, fun h => (by cases h), fun h => (by cases h)⟩ i5⟩
    · cases h

/-! Who comes ahead of whom -/

theorem predsFold_bit (acc : List Nat) (j : Nat) : ∀ (l : List Edge) (s : Nat), (l.foldl (fun s e => if Region.binds .any e then s ||| 2 ^ e.on ||| acc.getD e.on 0 else s) s).testBit j = true →
    s.testBit j = true ∨ ∃ e, e ∈ l ∧ Region.binds .any e = true ∧ (e.on = j ∨ (acc.getD e.on 0).testBit j = true)
  | [], s, h => .inl h
  | e :: l, s, h => by
    rcases predsFold_bit acc j l _ h with h | ⟨e', h1, h2, h3⟩
    · dsimp only at h
      split at h
      · rename_i hb
        simp only [Nat.testBit_or, Bool.or_eq_true] at h
        rcases h with (h | h) | h
        · exact .inl h
        · rw [Nat.testBit_two_pow] at h
          exact .inr ⟨e, List.mem_cons_self, hb, .inl (by simpa using h)⟩
        · exact .inr ⟨e, List.mem_cons_self, hb, .inr h⟩
      · exact .inl h
    · exact .inr ⟨e', List.mem_cons_of_mem _ h1, h2, h3⟩

theorem bitsL_spec : ∀ (l : List Oper) (acc : List Nat), (∃ suf, bitsL l acc = acc ++ suf) ∧ (bitsL l acc).length = acc.length + l.length ∧
    ∀ (i : Nat) (o : Oper), l[i]? = some o → (bitsL l acc)[acc.length + i]? = some (predsOf ((bitsL l acc).take (acc.length + i)) o)
  | [], acc => ⟨⟨[], by simp [bitsL]⟩, by simp [bitsL], fun i o h => by simp at h⟩
  | o :: l, acc => by
    obtain ⟨⟨suf, h1⟩, h2, h3⟩ := bitsL_spec l (acc ++ [predsOf acc o])
    refine ⟨⟨predsOf acc o :: suf, by simp [bitsL, h1]⟩, by simp [bitsL, h2]; omega, fun i o' hi => ?_⟩
    show (bitsL l (acc ++ [predsOf acc o]))[_]? = some (predsOf ((bitsL l (acc ++ [predsOf acc o])).take _) o')
    cases i with
    | zero =>
      simp only [List.getElem?_cons_zero, Option.some.injEq] at hi
      subst hi
      rw [h1]
      simp
    | succ i =>
      have := h3 i o' (by simpa using hi)
      simp only [List.length_append, List.length_cons, List.length_nil] at this
      rw [show acc.length + (i + 1) = acc.length + (0 + 1) + i by omega]
      exact this

theorem bit_pred {ops : Array Oper} {i j : Nat} (h : bit (bitsL ops.toList []) i j = true) :
    ∃ o, ops[i]? = some o ∧ ∃ e, e ∈ o.after ∧ Region.binds .any e = true ∧ (e.on = j ∨ bit (bitsL ops.toList []) e.on j = true) := by
  obtain ⟨_, h2, h3⟩ := bitsL_spec ops.toList []
  unfold bit at h
  cases ho : ops[i]? with
  | none =>
    have : ops.size ≤ i := by simpa using ho
    rw [List.getD_eq_getElem?_getD, List.getElem?_eq_none (by rw [h2]; simpa using this)] at h
    simp at h
  | some o =>
    have h4 := h3 i o (by simpa using ho)
    simp only [List.length_nil, Nat.zero_add] at h4
    rw [List.getD_eq_getElem?_getD, h4, Option.getD_some] at h
    rcases predsFold_bit _ j _ _ h with h | ⟨ed, h5, h6, h7⟩
    · simp at h
    · refine ⟨o, rfl, ed, by simpa using h5, h6, h7.imp_right fun h => ?_⟩
      unfold bit
      rw [List.getD_eq_getElem?_getD] at h ⊢
      rw [List.getElem?_take] at h
      split at h
      · exact h
      · simp at h

/-- Edges go back in the text. -/
def Backward (ops : Array Oper) : Prop := ∀ (i : Nat) (o : Oper), ops[i]? = some o → ∀ e, e ∈ o.after → Region.binds .any e = true → e.on < i

theorem bit_lt {ops : Array Oper} (hb : Backward ops) : ∀ (i j : Nat), bit (bitsL ops.toList []) i j = true → j < i := by
  intro i
  induction i using Nat.strongRecOn with
  | ind i ih =>
    intro j h
    obtain ⟨o, ho, ed, h1, h2, h3⟩ := bit_pred h
    have := hb i o ho ed h1 h2
    rcases h3 with rfl | h3
    · exact this
    · exact Nat.lt_trans (ih _ this j h3) this

/-- A set of operations in which whoever stands in it has those before it. -/
def Closed (ops : Array Oper) (D : Nat → Prop) : Prop := ∀ (i : Nat) (o : Oper), D i → ops[i]? = some o → ∀ e, e ∈ o.after → Region.binds .any e = true → D e.on

theorem bit_closed {ops : Array Oper} (hb : Backward ops) {D : Nat → Prop} (hc : Closed ops D) : ∀ (i j : Nat), (∀ o, ops[i]? = some o → ∀ e, e ∈ o.after → Region.binds .any e = true → D e.on) →
    bit (bitsL ops.toList []) i j = true → D j := by
  intro i
  induction i using Nat.strongRecOn with
  | ind i ih =>
    intro j hi h
    obtain ⟨o, ho, ed, h1, h2, h3⟩ := bit_pred h
    have hd := hi o ho ed h1 h2
    rcases h3 with rfl | h3
    · exact hd
    · exact ih _ (hb i o ho ed h1 h2) j (fun o' ho' => hc _ o' hd ho') h3

end Go.Proofs.YtkddphdhcejdaaaDoor.AI
