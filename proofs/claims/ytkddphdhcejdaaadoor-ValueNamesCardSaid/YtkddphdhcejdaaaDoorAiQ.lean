/-
  A region whose order is drawn: every order, step by step.
-/
import Derived.Test.YtkddphdhcejdaaaDoorAiP
set_option linter.unusedVariables false
set_option linter.unusedSimpArgs false
namespace Go.Proofs.YtkddphdhcejdaaaDoor.AI
open Go.RowKit
variable {C : Cfg} {B : Nat} {e : E} {hp : Hp}

theorem put_spec {a : Act} {d : Option Tmp} {u v : Value} {s : Nat} (h : (a.put d u).tmps[s]? = some v) : (d = some s ∧ v = u) ∨ (d ≠ some s ∧ a.tmps[s]? = some v) := by
  cases d with
  | none => exact .inr ⟨by simp, h⟩
  | some d =>
    simp only [Act.put, Array.getElem?_setIfInBounds] at h
    split at h
    · rename_i hds
      subst hds
      split at h
      · exact .inl ⟨rfl, by simpa using h.symm⟩
      · cases h
    · rename_i hds
      exact .inr ⟨by simpa using hds, h⟩

theorem put_size (a : Act) (d : Option Tmp) (u : Value) : (a.put d u).tmps.size = a.tmps.size := by cases d <;> simp [Act.put]

/-- What is looked at at the start. -/
structure Plan (C : Cfg) (rec : Rec) (ops : Array Oper) (env0 : List AV) (ts : List Ent) (ms : List Hp) : Prop where
  os : ts.map (·.o) = ops.toList
  ent : ∀ (j : Nat) (t : Ent), ts[j]? = some t → EntOk C rec ops ms (envOf (ts.take j) env0) t
  back : Backward ops
  uniq : ∀ (i j : Nat) (t t' : Ent) d, ts[i]? = some t → ts[j]? = some t' → t.o.dst = some d → t'.o.dst = some d → i = j
  look : ∀ (i j : Nat) (t t' : Ent) s, ts[i]? = some t → ts[j]? = some t' → s ∈ looks ops t.o → t'.o.dst = some s → i = j ∨ bit (bitsL ops.toList []) i j = true ∨ bit (bitsL ops.toList []) j i = true
  rank : ∀ (i j : Nat) (t t' : Ent), ts[i]? = some t → ts[j]? = some t' → t.imp = true → t'.imp = true → i < j → bit (bitsL ops.toList []) j i = true ∧ t.k < t'.k
  ex : ∀ r, r + 1 < ms.length → ∃ (j : Nat) (t : Ent), ts[j]? = some t ∧ t.imp = true ∧ t.k = r
  pure : ∀ (i : Nat) (t : Ent) (k : Nat) (hp : Hp), ts[i]? = some t → t.imp = false → t.wt = true → ms[k]? = some hp →
    (∃ (j : Nat) (t' : Ent), ts[j]? = some t' ∧ t'.imp = true ∧ ((k ≤ t'.k ∧ bit (bitsL ops.toList []) i j = true) ∨ (t'.k < k ∧ bit (bitsL ops.toList []) j i = true))) ∨
    ∃ hp', opA C rec t.x t.o hp = some (t.v, hp')

theorem mem_zipIdx' {α : Type} {l : List α} {i : Nat} {x : α} (h : l[i]? = some x) : (x, i) ∈ l.zipIdx := by
  rw [List.mem_zipIdx_iff_getElem?]
  exact h

theorem plan_of {rec : Rec} {ops : Array Oper} {env : List AV} {ts : List Ent} {env' : List AV} {ms : List Hp} {hp' : Hp} (ho : orderOk ops (bitsL ops.toList []) = true)
    (hp1 : passA C rec ops ops.toList env [hp] 0 hp = some (ts, env', ms, hp')) (he : entsOk C rec (bitsL ops.toList []) ts ms = true) :
    Plan C rec ops env ts ms ∧ env' = envOf ts env ∧ ms[0]? = some hp ∧ ms[ms.length - 1]? = some hp' := by
  obtain ⟨h1, h2, ⟨suf, h3⟩, h4, h5⟩ := passA_spec ops.toList env [hp] 0 hp ts env' ms hp' hp1 rfl rfl
  have ops_of : ∀ (i : Nat) (t : Ent), ts[i]? = some t → ops.toList[i]? = some t.o := fun i t ht => by rw [← h1, List.getElem?_map, ht]; rfl
  unfold orderOk at ho
  simp only [List.all_eq_true, Bool.and_eq_true, Bool.or_eq_true, Bool.not_eq_true', decide_eq_true_eq] at ho
  unfold entsOk at he
  simp only [List.all_eq_true, Bool.and_eq_true, Bool.or_eq_true, Bool.not_eq_true', decide_eq_true_eq, List.any_eq_true, List.mem_filter, List.mem_range] at he
  obtain ⟨⟨he1, he2⟩, he3⟩ := he
  refine ⟨⟨h1, h5, ?_, ?_, ?_, ?_, ?_, ?_⟩, h2, by rw [h3]; rfl, h4⟩
  · intro i o hi ed hed hb
    have := (ho (o, i) (mem_zipIdx' (by simpa using hi))).1.1 ed (by simpa using hed)
    rcases this with h | h
    · rw [hb] at h; cases h
    · exact h
  · intro i j t t' d hi hj hd hd'
    have := (ho (t.o, i) (mem_zipIdx' (ops_of i t hi))).1.2
    rcases this with h | h
    · simp [hd] at h
    · rcases h (t'.o, j) (mem_zipIdx' (ops_of j t' hj)) with h | h
      · simpa using h
      · simp [hd, hd'] at h
  · intro i j t t' s hi hj hs hd
    rcases (ho (t.o, i) (mem_zipIdx' (ops_of i t hi))).2 s hs (t'.o, j) (mem_zipIdx' (ops_of j t' hj)) with ((h | h) | h) | h
    · exact .inl (by simpa using h)
    · simp [hd] at h
    · exact .inr (.inl h)
    · exact .inr (.inr h)
  · intro i j t t' hi hj hti htj hij
    rcases he1 (t, i) ⟨mem_zipIdx' hi, hti⟩ (t', j) ⟨mem_zipIdx' hj, htj⟩ with h | h
    · simp at h; omega
    · exact h
  · intro r hr
    obtain ⟨⟨t, j⟩, ⟨hm, hti⟩, hk⟩ := he2 r (by omega)
    exact ⟨j, t, by simpa [List.mem_zipIdx_iff_getElem?] using hm, hti, by simpa using hk⟩
  · intro i t k hpk hi hti hwt hk
    rcases he3 (t, i) (mem_zipIdx' hi) with (h | h) | h
    · rw [hti] at h; cases h
    · rw [hwt] at h; cases h
    · rcases h (hpk, k) (mem_zipIdx' hk) with ⟨⟨t', j⟩, ⟨hm, htj⟩, h⟩ | h
      · exact .inl ⟨j, t', by simpa [List.mem_zipIdx_iff_getElem?] using hm, htj, h⟩
      · dsimp only at h
        split at h
        · rename_i v hp' hop
          rw [AV.beq_eq _ _ h] at hop
          exact .inr ⟨_, hop⟩
        · cases h

/-- Where a region whose order is drawn stands, when the operations of D have been. -/
structure Inv (B : Nat) (e0 : E) (a0 : Act) (env0 : List AV) (ops : Array Oper) (ts : List Ent) (ms : List Hp) (D : Nat → Prop) (kD : Nat) (e : E) (a : Act) : Prop where
  closed : Closed ops D
  rank : ∀ (j : Nat) (t : Ent), ts[j]? = some t → t.imp = true → (D j ↔ t.k < kD)
  kle : kD < ms.length
  sim : ∀ hp, ms[kD]? = some hp → Sim B e hp
  size : a.tmps.size = env0.length
  done : ∀ (j : Nat) (t : Ent) (d : Nat) (u : Value), ts[j]? = some t → D j → t.o.dst = some d → a.tmps[d]? = some u → Rd e t.v u
  old : ∀ (s : Nat) (x : AV) (u : Value), env0[s]? = some x → (∀ (j : Nat) (t : Ent), ts[j]? = some t → D j → t.o.dst ≠ some s) → a.tmps[s]? = some u → Rd e x u
  defers : a.defers = a0.defers
  adv : Adv e0 e

theorem Inv.next {rec : Rec} {e0 : E} {a0 : Act} {env0 : List AV} {ops : Array Oper} {ts : List Ent} {ms : List Hp} (pl : Plan C rec ops env0 ts ms) {D D' : Nat → Prop} {kD k' : Nat} {a : Act} (h : Inv B e0 a0 env0 ops ts ms D kD e a)
    {i : Nat} {t : Ent} (hi : ts[i]? = some t) (hD : ∀ j, D' j ↔ D j ∨ j = i) (hready : ∀ ed, ed ∈ t.o.after → Region.binds .any ed = true → D ed.on) {e1 : E} {u : Value} (ha : Adv e e1) (hu : Rd e1 t.v u)
    (hr : ∀ (j : Nat) (t : Ent), ts[j]? = some t → t.imp = true → (D' j ↔ t.k < k')) (hk : k' < ms.length) (hs : ∀ hp, ms[k']? = some hp → Sim B e1 hp) :
    Inv B e0 a0 env0 ops ts ms D' k' e1 (a.put t.o.dst u) := by
  refine ⟨?_, hr, hk, hs, by rw [put_size]; exact h.size, ?_, ?_, by rw [put_defers]; exact h.defers, h.adv.trans ha⟩
  · intro j o hj ho ed hed hb
    rcases (hD j).1 hj with hj | rfl
    · exact (hD _).2 (.inl (h.closed j o hj ho ed hed hb))
    · have : t.o = o := by
        have h1 : ops.toList[j]? = some t.o := by rw [← pl.os, List.getElem?_map, hi]; rfl
        rw [Array.getElem?_toList, ho] at h1
        exact (Option.some.inj h1).symm
      subst this
      exact (hD _).2 (.inl (hready ed hed hb))
  · intro j t' d v hj hDj hd hv
    rcases put_spec hv with ⟨h1, rfl⟩ | ⟨h1, h2⟩
    · have := pl.uniq j i t' t d hj hi hd h1
      subst this
      rw [hi] at hj
      cases hj
      exact hu
    · rcases (hD j).1 hDj with hDj | rfl
      · exact (h.done j t' d v hj hDj hd h2).mono ha
      · rw [hi] at hj
        cases hj
        exact absurd hd h1
  · intro s x v hx hn hv
    rcases put_spec hv with ⟨h1, rfl⟩ | ⟨h1, h2⟩
    · exact absurd h1 (hn i t hi ((hD i).2 (.inr rfl)))
    · exact (h.old s x v hx (fun j t' hj hDj => hn j t' hj ((hD j).2 (.inl hDj))) h2).mono ha

theorem Inv.env {rec : Rec} {e0 : E} {a0 : Act} {env0 : List AV} {ops : Array Oper} {ts : List Ent} {ms : List Hp} (pl : Plan C rec ops env0 ts ms) {D : Nat → Prop} {kD : Nat} {a : Act} (h : Inv B e0 a0 env0 ops ts ms D kD e a)
    {i : Nat} {t : Ent} (hi : ts[i]? = some t) (hready : ∀ o, ops[i]? = some o → ∀ ed, ed ∈ o.after → Region.binds .any ed = true → D ed.on) (hni : ¬ D i) : EnvOk e t.x a.tmps := by
  have hx := (pl.ent i t hi).x
  refine ⟨by rw [hx, mask_length, envOf_length]; exact h.size, fun s x v hxs hv => ?_⟩
  rw [hx] at hxs
  rcases mask_spec _ _ _ _ _ hxs with rfl | ⟨hl, hxs⟩
  · exact .undef v
  · have hl : s ∈ looks ops t.o := by simpa using hl
    rcases envOf_spec _ _ _ _ hxs with ⟨t', hm, hd, rfl⟩ | ⟨hn, h0⟩
    · obtain ⟨j, hj, hjt⟩ := List.mem_take_iff_getElem.1 hm
      have hji : j < i := by omega
      have hj' : ts[j]? = some t' := by rw [List.getElem?_eq_getElem (by omega), hjt]
      have : bit (bitsL ops.toList []) i j = true := by
        rcases pl.look i j t t' s hi hj' hl hd with h | h | h
        · omega
        · exact h
        · have := bit_lt pl.back j i h; omega
      exact h.done j t' s v hj' (bit_closed pl.back h.closed i j hready this) hd hv
    · refine h.old s x v h0 (fun j t' hj hDj hd => ?_) hv
      rcases Nat.lt_trichotomy j i with hji | rfl | hji
      · exact hn t' (List.mem_take_iff_getElem.2 ⟨j, by have := (List.getElem?_eq_some_iff.1 hj).1; omega, (List.getElem?_eq_some_iff.1 hj).2⟩) hd
      · exact hni hDj
      · rcases pl.look i j t t' s hi hj hl hd with h1 | h1 | h1
        · omega
        · have := bit_lt pl.back i j h1; omega
        · exact hni (bit_closed pl.back h.closed j i (fun o ho => h.closed j o hDj ho) h1)

theorem any_ok {fuel : Nat} {rec : Rec} (hrec : RecOk C B fuel rec) (rd : Option Nat) {e0 : E} {a0 : Act} {env0 : List AV} {ops : Array Oper} {ts : List Ent} {ms : List Hp} (hg0 : GlOk C e0) (pl : Plan C rec ops env0 ts ms)
    (Q : Exit → Act → World → Prop) (hQ : ∀ (e' : E) (a' : Act), EnvOk e' (envOf ts env0) a'.tmps → (∀ hp, ms[ms.length - 1]? = some hp → Sim B e' hp) → Adv e0 e' → a'.defers = a0.defers → Q .normal a' e'.w) :
    ∀ (n : Nat) (L : List Nat) (listed : Array Bool) (kD : Nat) (e : E) (a : Act), L.Nodup → L.length ≤ n → listed.size = ops.size → (∀ i, i < ops.size → (listed.getD i true = false ↔ i ∈ L)) → (∀ i, i ∈ L → i < ops.size) →
      Inv B e0 a0 env0 ops ts ms (fun i => listed.getD i false = true) kD e a → wpAnyIn (FW rd) 0 C.P .any ops Q n listed a e.w := by
  have lt_of : ∀ (i : Nat) (t : Ent), ts[i]? = some t → ops[i]? = some t.o ∧ i < ops.size := fun i t ht => by
    have h1 : ops.toList[i]? = some t.o := by rw [← pl.os, List.getElem?_map, ht]; rfl
    rw [Array.getElem?_toList] at h1
    exact ⟨h1, (Array.getElem?_eq_some_iff.1 h1).1⟩
  have of_lt : ∀ (i : Nat) (o : Oper), ops[i]? = some o → ∃ t, ts[i]? = some t ∧ t.o = o := fun i o ho => by
    have h1 : (ts.map (·.o))[i]? = some o := by rw [pl.os, Array.getElem?_toList]; exact ho
    rw [List.getElem?_map] at h1
    simpa using h1
  have fin : ∀ (L : List Nat) (listed : Array Bool) (kD : Nat) (e : E) (a : Act), listed.size = ops.size → (∀ i, i < ops.size → (listed.getD i true = false ↔ i ∈ L)) → (∀ i, i ∈ L → i < ops.size) →
      Inv B e0 a0 env0 ops ts ms (fun i => listed.getD i false = true) kD e a → Region.ready .any ops listed = [] → Q .normal a e.w := by
    intro L listed kD e a hsz hL hL' h hr
    have all : ∀ i, i < ops.size → listed.getD i false = true := by
      intro i
      induction i using Nat.strongRecOn with
      | ind i ih =>
        intro hi
        cases hl : listed.getD i false with
        | true => rfl
        | false =>
          exfalso
          have : i ∈ Region.ready .any ops listed := by
            refine mem_ready.2 ⟨?_, ops[i], Array.getElem?_eq_getElem hi, fun ed hed hb => ?_⟩
            · simp only [Array.getD_eq_getD_getElem?, Array.getElem?_eq_getElem (show i < listed.size by omega)] at hl ⊢
              simpa using hl
            · have := pl.back i _ (Array.getElem?_eq_getElem hi) ed hed hb
              exact ih _ this (by omega)
          rw [hr] at this
          cases this
    have hk : kD = ms.length - 1 := by
      have := h.kle
      rcases Nat.lt_or_ge (kD + 1) ms.length with hlt | hge
      · obtain ⟨j, t, hj, hti, rfl⟩ := pl.ex kD hlt
        have := (h.rank j t hj hti).1 (all j (lt_of j t hj).2)
        omega
      · omega
    refine hQ e a ⟨by rw [envOf_length]; exact h.size, fun s x v hx hv => ?_⟩ (fun hp hhp => h.sim hp (by rw [hk]; exact hhp)) h.adv h.defers
    rcases envOf_spec _ _ _ _ hx with ⟨t, hm, hd, rfl⟩ | ⟨hn, h0⟩
    · obtain ⟨j, hj⟩ := List.mem_iff_getElem?.1 hm
      exact h.done j t s v hj (all j (lt_of j t hj).2) hd hv
    · exact h.old s x v h0 (fun j t hj _ => hn t (List.mem_of_getElem? hj)) hv
  intro n
  induction n with
  | zero =>
    intro L listed kD e a hnd hlen hsz hL hL' h
    have hL0 : L = [] := List.length_eq_zero_iff.1 (by omega)
    subst hL0
    have hr : Region.ready .any ops listed = [] := by
      refine List.eq_nil_iff_forall_not_mem.2 fun i hi => ?_
      obtain ⟨h1, o, ho, _⟩ := mem_ready.1 hi
      have := (hL i (Array.getElem?_eq_some_iff.1 ho).1).1 h1
      cases this
    exact ⟨hr, fin _ listed kD e a hsz hL hL' h hr⟩
  | succ n ih =>
    intro L listed kD e a hnd hlen hsz hL hL' h
    refine ⟨fin L listed kD e a hsz hL hL' h, fun i hi => ?_⟩
    obtain ⟨h1, o, ho, hed⟩ := mem_ready.1 hi
    have hlt := (Array.getElem?_eq_some_iff.1 ho).1
    obtain ⟨t, ht, rfl⟩ := of_lt i o ho
    have hiL := (hL i hlt).1 h1
    have hready : ∀ o, ops[i]? = some o → ∀ ed, ed ∈ o.after → Region.binds .any ed = true → listed.getD ed.on false = true := fun o' ho' => by
      rw [ho] at ho'
      cases ho'
      exact hed
    have hni : ¬ (listed.getD i false = true) := by
      simp only [Array.getD_eq_getD_getElem?, Array.getElem?_eq_getElem (show i < listed.size by omega)] at h1 ⊢
      simpa using h1
    have henv := h.env pl ht hready hni
    have hent := pl.ent i t ht
    have hD : ∀ j, (listed.setIfInBounds i true).getD j false = true ↔ listed.getD j false = true ∨ j = i := fun j => by
      by_cases hij : i = j
      · subst hij
        simp [hsz, hlt]
      · rw [getD_set_ne false hij]
        simp [Ne.symm hij]
    have go : ∀ (k' : Nat) (e1 : E) (u : Value), Inv B e0 a0 env0 ops ts ms (fun i' => (listed.setIfInBounds i true).getD i' false = true) k' e1 (a.put t.o.dst u) →
        wpAnyIn (FW rd) 0 C.P .any ops Q n (listed.setIfInBounds i true) (a.put t.o.dst u) e1.w := fun k' e1 u hinv =>
      ih (L.erase i) _ k' e1 _ (hnd.erase i) (by rw [List.length_erase_of_mem hiL]; omega) (by simpa using hsz) (fun j hj => by
        rw [hnd.mem_erase_iff]
        by_cases hij : i = j
        · subst hij
          simp [hsz, hlt]
        · rw [getD_set_ne true hij, hL j hj]
          exact ⟨fun h => ⟨Ne.symm hij, h⟩, fun h => h.2⟩) (fun j hj => hL' j (List.mem_of_mem_erase hj)) hinv
    have pureRank : t.imp = false → ∀ (j : Nat) (t' : Ent), ts[j]? = some t' → t'.imp = true → ((listed.setIfInBounds i true).getD j false = true ↔ t'.k < kD) := fun hti j t' hj htj => by
      rw [hD j, ← h.rank j t' hj htj]
      refine ⟨fun hh => hh.resolve_right ?_, .inl⟩
      rintro rfl
      rw [ht] at hj
      cases hj
      rw [hti] at htj
      cases htj
    unfold wpOpIn
    simp only [ho]
    rw [wantA_ok henv hent.w]
    cases hwt : t.wt with
    | false =>
      obtain ⟨hti, hv⟩ := hent.nw hwt
      simp only [Bool.false_eq_true, if_false]
      exact ⟨about_fence rd _ _ _ _, go kD e undef (h.next pl ht hD (hready _ ho) (.refl e) (by rw [hv]; exact .no) (pureRank hti) h.kle h.sim)⟩
    | true =>
      simp only [if_true]
      have hgl : GlOk C e := hg0.mono h.adv
      cases hti : t.imp with
      | false =>
        obtain ⟨hpk, hms⟩ : ∃ hpk, ms[kD]? = some hpk := ⟨_, List.getElem?_eq_getElem h.kle⟩
        obtain ⟨hp', hop⟩ : ∃ hp', opA C rec t.x t.o hpk = some (t.v, hp') := by
          refine (pl.pure i t kD hpk ht hti hwt hms).resolve_left ?_
          rintro ⟨j, t', hj, htj, ⟨hk, hb⟩ | ⟨hk, hb⟩⟩
          · have := (h.rank j t' hj htj).1 (bit_closed pl.back h.closed i j hready hb)
            omega
          · have := (h.rank j t' hj htj).2 hk
            exact hni (bit_closed pl.back h.closed j i (fun o ho => h.closed j o this ho) hb)
        obtain rfl := still_hp (hent.st hwt hti) hop
        refine opA_ok hrec rd hop (h.sim _ hms) hgl henv _ _ fun e1 u hr hs ha => ?_
        exact go kD e1 u (h.next pl ht hD (hready _ ho) ha hr (pureRank hti) h.kle (fun hp hhp => by rw [hms] at hhp; cases hhp; exact hs))
      | true =>
        obtain ⟨h0, h2, hm0, hm1, hop⟩ := hent.im hti
        have hk1 := (List.getElem?_eq_some_iff.1 hm1).1
        have hkD : t.k = kD := by
          rcases Nat.lt_trichotomy t.k kD with hlt' | heq | hgt
          · exact absurd ((h.rank i t ht hti).2 hlt') hni
          · exact heq
          · obtain ⟨j, t', hj, htj, hr⟩ := pl.ex kD (by omega)
            rcases Nat.lt_trichotomy i j with hij | rfl | hij
            · have := (pl.rank i j t t' ht hj hti htj hij).2
              omega
            · rw [ht] at hj; cases hj; omega
            · have := (h.rank j t' hj htj).1 (bit_closed pl.back h.closed i j hready (pl.rank j i t' t hj ht htj hti hij).1)
              omega
        refine opA_ok hrec rd hop (h.sim _ (by rw [← hkD]; exact hm0)) hgl henv _ _ fun e1 u hr hs ha => ?_
        refine go (kD + 1) e1 u (h.next pl ht hD (hready _ ho) ha hr (fun j t' hj htj => ?_) (by omega) (fun hp hhp => by rw [← hkD, hm1] at hhp; cases hhp; exact hs))
        rw [hD j, h.rank j t' hj htj]
        rcases Nat.lt_trichotomy i j with hij | rfl | hij
        · have := (pl.rank i j t t' ht hj hti htj hij).2
          omega
        · rw [ht] at hj; cases hj; omega
        · have := (pl.rank j i t' t hj ht htj hti hij).2
          omega

theorem regD_ok {fuel : Nat} {rec : Rec} (hrec : RecOk C B fuel rec) (rd : Option Nat) (hm : C.P.follows .mixedOrders = true) {ops : Array Oper} {env env' : List AV} {hp' : Hp} {a : Act} {id : Nat}
    (hx : regD C rec ops env hp = some (env', hp')) (h : Sim B e hp) (hg : GlOk C e) (he : EnvOk e env a.tmps)
    (Q : Exit → Act → World → Prop) (hQ : ∀ (e' : E) (a' : Act), EnvOk e' env' a'.tmps → Sim B e' hp' → Adv e e' → a'.defers = a.defers → Q .normal a' e'.w) : (Code.region id ops true).wpIn (FW rd) 0 C.P Q a e.w := by
  unfold regD at hx
  dsimp only at hx
  split at hx
  case isFalse => cases hx
  rename_i ho
  split at hx
  case h_2 => cases hx
  rename_i ts env1 ms hp1 hpass
  split at hx
  case isFalse => cases hx
  rename_i hents
  cases hx
  obtain ⟨pl, rfl, h0, h1⟩ := plan_of ho hpass hents
  have ha0 : Adv e { e with w := { e.w with drawn := e.w.drawn + 1 } } := adv_heap _ rfl rfl rfl rfl
  have hs0 := sim_heap h { e.w with drawn := e.w.drawn + 1 } rfl rfl rfl rfl
  have hms : 0 < ms.length := (List.getElem?_eq_some_iff.1 h0).1
  refine wpIn_region_any hm ?_
  refine any_ok (e0 := { e with w := { e.w with drawn := e.w.drawn + 1 } }) (a0 := a) hrec rd (hg.mono ha0) pl Q (fun e' a' q1 q2 q3 q4 => hQ e' a' q1 (q2 _ h1) (ha0.trans q3) q4) ops.size (List.range ops.size) _ 0 { e with w := { e.w with drawn := e.w.drawn + 1 } } a
    List.nodup_range (by simp) (by simp) (fun i hi => by simp [hi]) (fun i hi => by simpa using hi) ?_
  have nl : ∀ j, ¬ ((Array.replicate ops.size false).getD j false = true) := fun j => by
    simp only [Array.getD_eq_getD_getElem?, Array.getElem?_replicate]
    split <;> simp
  refine ⟨fun i o hi => absurd hi (nl i), fun j t hj hti => ⟨fun h => absurd h (nl j), fun h => absurd h (Nat.not_lt_zero _)⟩, hms, fun hp hhp => by rw [h0] at hhp; cases hhp; exact hs0, he.1,
    fun j t d u hj hD => absurd hD (nl j), fun s x u hx _ hu => (he.2 s x u hx hu).mono ha0, rfl, .refl _⟩

end Go.Proofs.YtkddphdhcejdaaaDoor.AI
