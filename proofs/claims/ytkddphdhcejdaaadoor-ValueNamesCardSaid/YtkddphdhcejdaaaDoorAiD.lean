/-
  How the two memories go on: a new variable, a new row, a store, a new token.
-/
import Derived.Test.YtkddphdhcejdaaaDoorAiC
import Derived.Laws.Cells
import Derived.Below
set_option linter.unusedVariables false
namespace Go.Proofs.YtkddphdhcejdaaaDoor.AI
open Go.RowKit
variable {P : Program} {B : Nat} {e : E} {hp : Hp}

theorem Sim.lt (h : Sim B e hp) {a : Addr} (ha : e.S a) : a.block < e.w.heap.size := by
  obtain ⟨v, hv⟩ := Option.isSome_iff_exists.1 (h.Sok a ha)
  exact World.block_lt_of_cell? _ _ hv

theorem heap_alloc_lt (w : World) (o : Obj) {k : Nat} (h : k < w.heap.size) : (w.alloc o).heap[k]? = w.heap[k]? := by
  simp only [World.alloc, Array.getElem?_push]
  rw [if_neg (by omega)]
theorem heap_alloc_eq (w : World) (o : Obj) : (w.alloc o).heap[w.heap.size]? = some o := by
  show (w.heap.push o)[w.heap.size]? = some o
  simp
theorem lt_of_heap {w : World} {k : Nat} {o : Obj} (h : w.heap[k]? = some o) : k < w.heap.size := (Array.getElem?_eq_some_iff.1 h).1

theorem TokOk.mono {e e' : E} {tk : Tok} (h : TokOk B e tk) (hS : ∀ a, e'.S a → e.S a ∨ (∀ g, tk.blk = some g → a.block ≠ g))
    (hh : ∀ g, tk.blk = some g → e'.w.heap[g]? = e.w.heap[g]?) (hβ : ∀ b g, tk.blk = some g → e'.β b = some g → e.β b = some g) : TokOk B e' tk := by
  rcases h with h | ⟨h1, h2, g, cap, cur, el, fz, h3, h4, h5, h6, h7, h8, h9⟩
  · exact .inl h
  · have hg : tk.blk = some g := Tok.blk_pos h1 h3
    refine .inr ⟨h1, h2, g, cap, cur, el, fz, h3, h4, ⟨(hh g hg).trans h5.1, h5.2⟩, h6, h7, fun a ha hb => ?_, fun b hb => h9 b (hβ b g hg hb)⟩
    rcases hS a ha with ha | ha
    · exact h8 a ha hb
    · exact absurd hb (ha g hg)

theorem TokOk.lt {tk : Tok} (h : TokOk B e tk) {g : Nat} (hg : tk.blk = some g) : g < e.w.heap.size := by
  rcases h with ⟨h, _⟩ | ⟨h1, h2, g', cap, cur, el, fz, h3, h4, h5, _⟩
  · rw [Tok.blk_zero h] at hg; cases hg
  · rw [Tok.blk_pos h1 h3] at hg; cases hg; exact lt_of_heap h5.1

/-- The heap, and all that the tie speaks of, is as it was. -/
theorem adv_heap (w' : World) (hw : w'.heap = e.w.heap) (ho : w'.os = e.w.os) (ht : w'.tape = e.w.tape) (hu : w'.output = e.w.output) : Adv e { e with w := w' } := by
  have hc : ∀ a, w'.cell? a = e.w.cell? a := fun a => by simp [World.cell?, hw]
  exact ⟨fun a h => ⟨h, hc a⟩, fun _ _ h => h, fun _ _ h => h, fun t tk h => ⟨tk, h, Nat.le_refl _, fun _ => rfl, fun _ => rfl⟩, fun _ _ h => .inl h, fun _ _ h => .inl h,
    fun t tk' g h hg => .inl ⟨tk', h, hg⟩, by simp [hw], fun r _ _ _ _ => by simp [hw], fun _ h => .inl h, fun _ _ h => .inl h, fun _ tk h => .inl ⟨tk, h⟩, fun _ _ h => .inl h, rfl, rfl, rfl, ho, ht, hu, fun k r h => ⟨r, by show w'.heap[k]? = _; rw [hw]; exact h⟩, fun k vs t z h => ⟨vs, z, by show w'.heap[k]? = _; rw [hw]; exact h, rfl⟩⟩
theorem sim_heap (h : Sim B e hp) (w' : World) (hw : w'.heap = e.w.heap) (ho : w'.os = e.w.os) (ht : w'.tape = e.w.tape) (hu : w'.output = e.w.output) : Sim B { e with w := w' } hp := by
  have ha := adv_heap (e := e) w' hw ho ht hu
  have hc : ∀ a, w'.cell? a = e.w.cell? a := fun a => by simp [World.cell?, hw]
  refine ⟨by simpa [hw] using h.base, h.lk, fun a ha => by show (w'.cell? a).isSome = true; rw [hc]; exact h.Sok a ha, ?_, h.inj, ?_, h.tinj, ?_, h.linj⟩
  · intro b k hb
    obtain ⟨h1, h2, cs, vs, t, h3, h4, h5, h6⟩ := h.box b k hb
    exact ⟨h1, h2, cs, vs, t, h3, by show w'.heap[k]? = _; rw [hw]; exact h4, h5, fun i x v hx hv => (h6 i x v hx hv).mono ha⟩
  · intro t tk htk
    obtain ⟨h1, h2⟩ := h.tok t tk htk
    exact ⟨h1, h2.mono (fun a h => .inl h) (fun g _ => by show w'.heap[g]? = _; rw [hw]) (fun _ _ _ h => h)⟩
  · intro l k hl
    obtain ⟨h1, r, f, tmps, df, h2, h3, h4⟩ := h.loop l k hl
    exact ⟨h1, r, f, tmps, df, h2, by show w'.heap[k]? = _; rw [hw]; exact h3, fun hi => (h4 hi).mono ha⟩

/-- A new object of nobody's: the tie as it was. -/
theorem adv_alloc (h : Sim B e hp) (o : Obj) : Adv e { e with w := e.w.alloc o } :=
  ⟨fun a ha => ⟨ha, World.cell?_alloc_lt _ _ _ (h.lt ha)⟩, fun _ _ h => h, fun _ _ h => h, fun t tk h => ⟨tk, h, Nat.le_refl _, fun _ => rfl, fun _ => rfl⟩, fun _ _ h => .inl h, fun _ _ h => .inl h,
    fun t tk' g h hg => .inl ⟨tk', h, hg⟩, by simp, fun r hr _ _ _ => heap_alloc_lt _ _ hr, fun _ h => .inl h, fun _ _ h => .inl h, fun _ tk h => .inl ⟨tk, h⟩, fun _ _ h => .inl h, rfl, rfl, rfl, rfl, rfl, rfl, fun k r h => ⟨r, (heap_alloc_lt _ _ (lt_of_heap h)).trans h⟩, fun k vs t z h => ⟨vs, z, (heap_alloc_lt _ _ (lt_of_heap h)).trans h, rfl⟩⟩
theorem sim_alloc (h : Sim B e hp) (o : Obj) : Sim B { e with w := e.w.alloc o } hp := by
  have ha := adv_alloc h o
  refine ⟨by have := h.base; simp; omega, h.lk, fun a hS => by show ((e.w.alloc o).cell? a).isSome = true; rw [World.cell?_alloc_lt _ _ _ (h.lt hS)]; exact h.Sok a hS, ?_, h.inj, ?_, h.tinj, ?_, h.linj⟩
  · intro b k hb
    obtain ⟨h1, h2, cs, vs, t, h3, h4, h5, h6⟩ := h.box b k hb
    exact ⟨h1, h2, cs, vs, t, h3, (heap_alloc_lt _ _ (lt_of_heap h4)).trans h4, h5, fun i x v hx hv => (h6 i x v hx hv).mono ha⟩
  · intro t tk htk
    obtain ⟨h1, h2⟩ := h.tok t tk htk
    exact ⟨h1, h2.mono (fun a h => .inl h) (fun g hg => heap_alloc_lt _ _ (h2.lt hg)) (fun _ _ _ h => h)⟩
  · intro l k hl
    obtain ⟨h1, r, f, tmps, df, h2, h3, h4⟩ := h.loop l k hl
    exact ⟨h1, r, f, tmps, df, h2, (heap_alloc_lt _ _ (lt_of_heap h3)).trans h3, fun hi => (h4 hi).mono ha⟩

theorem Sim.β_new (h : Sim B e hp) : e.β hp.boxes.length = none := by
  cases hb : e.β hp.boxes.length with
  | none => rfl
  | some k =>
    obtain ⟨_, _, cs, vs, t, h3, _⟩ := h.box _ _ hb
    simp at h3
theorem Sim.τ_new (h : Sim B e hp) : e.τ hp.toks.length = none := by
  cases hb : e.τ hp.toks.length with
  | none => rfl
  | some k =>
    have := (h.tok _ _ hb).1
    simp at this
theorem Sim.lp_new (h : Sim B e hp) : e.lp hp.loops.length = none := by
  cases hb : e.lp hp.loops.length with
  | none => rfl
  | some k =>
    obtain ⟨_, r, f, tm, df, h3, _⟩ := h.loop _ _ hb
    simp at h3
theorem Sim.β_lt (h : Sim B e hp) {b k : Nat} (hb : e.β b = some k) : b < hp.boxes.length ∧ k < e.w.heap.size := by
  obtain ⟨_, _, cs, vs, t, h3, h4, _⟩ := h.box _ _ hb
  exact ⟨(List.getElem?_eq_some_iff.1 h3).1, lt_of_heap h4⟩
theorem Sim.τ_lt (h : Sim B e hp) {t : Nat} {tk : Tok} (hb : e.τ t = some tk) : t < hp.toks.length := (List.getElem?_eq_some_iff.1 (h.tok _ _ hb).1).1
theorem Sim.lp_lt (h : Sim B e hp) {b k : Nat} (hb : e.lp b = some k) : b < hp.loops.length ∧ k < e.w.heap.size := by
  obtain ⟨_, r, f, tm, df, h3, h4, _⟩ := h.loop _ _ hb
  exact ⟨(List.getElem?_eq_some_iff.1 h3).1, lt_of_heap h4⟩

/-- A new token, for an empty slice that has no room. -/
theorem step_empty (h : Sim B e hp) (A : Option Addr) (el : Option TypeId) (hel : el = none → A = none) : ∃ e', e'.w = e.w ∧ Rd e' (.own hp.toks.length []) (.slice A 0 0) ∧ Sim B e' { hp with toks := hp.toks ++ [(0, el)] } ∧ Adv e e' := by
  have hn := h.τ_new
  let e' : E := { e with τ := fun t => if t = hp.toks.length then some ⟨0, 0, el, .slice A 0 0⟩ else e.τ t }
  have ha : Adv e e' := ⟨fun a h => ⟨h, rfl⟩, fun _ _ h => h, fun _ _ h => h,
    fun t tk ht => ⟨tk, by show (if _ then _ else _) = _; rw [if_neg (fun hh => by subst hh; rw [hn] at ht; cases ht)]; exact ht, Nat.le_refl _, fun _ => rfl, fun _ => rfl⟩,
    fun _ _ h => .inl h, fun _ _ h => .inl h, fun t tk' g ht hg => by
      simp only [e'] at ht
      split at ht
      · cases ht; rw [Tok.blk_zero rfl] at hg; cases hg
      · exact .inl ⟨tk', ht, hg⟩, Nat.le_refl _, fun _ _ _ _ _ => rfl, fun _ h => .inl h, fun _ _ h => .inl h, fun t tk' ht => by
      simp only [e'] at ht
      split at ht
      · subst_vars; exact .inr (by have := h.lk; omega)
      · exact .inl ⟨tk', ht⟩, fun _ _ h => .inl h, rfl, rfl, rfl, rfl, rfl, rfl, fun _ r h => ⟨r, h⟩, fun _ vs t z h => ⟨vs, z, h, rfl⟩⟩
  refine ⟨e', rfl, ?_, ?_, ha⟩
  · refine .own _ _ _ ⟨0, 0, el, .slice A 0 0⟩ (.list [] A 0 0 (fun _ _ => undef) (by simp) (by simp) (by simp) (by simp) (by simp) (by simp)) (by simp [e']) (by simp) (by simp) (fun _ => rfl)
  · refine ⟨h.base, by have := h.lk; simp [e']; omega, h.Sok, ?_, h.inj, ?_, ?_, ?_, h.linj⟩
    · intro b k hb
      obtain ⟨h1, h2, cs, vs, t, h3, h4, h5, h6⟩ := h.box b k hb
      exact ⟨h1, h2, cs, vs, t, h3, h4, h5, fun i x v hx hv => (h6 i x v hx hv).mono ha⟩
    · intro t tk htk
      simp only [e'] at htk
      split at htk
      · rename_i ht
        subst ht
        cases htk
        exact ⟨by simp, .inl ⟨rfl, A, rfl, hel⟩⟩
      · obtain ⟨h1, h2⟩ := h.tok t tk htk
        exact ⟨by simp only; rw [List.getElem?_append_left (h.τ_lt htk)]; exact h1, h2.mono (fun a h => .inl h) (fun g _ => rfl) (fun _ _ _ h => h)⟩
    · intro t t' tk tk' g h1 h2 hg hg'
      simp only [e'] at h1 h2
      split at h1
      · cases h1; rw [Tok.blk_zero rfl] at hg; cases hg
      · split at h2
        · cases h2; rw [Tok.blk_zero rfl] at hg'; cases hg'
        · exact h.tinj t t' tk tk' g h1 h2 hg hg'
    · intro l k hl
      obtain ⟨h1, r, f, tmps, df, h2, h3, h4⟩ := h.loop l k hl
      exact ⟨h1, r, f, tmps, df, h2, h3, fun hi => (h4 hi).mono ha⟩
theorem step_nil (h : Sim B e hp) : ∃ e', e'.w = e.w ∧ Rd e' (.own hp.toks.length []) (.slice none 0 0) ∧ Sim B e' { hp with toks := hp.toks ++ [(0, none)] } ∧ Adv e e' := step_empty h none none (fun _ => rfl)

/-- A new variable. -/
theorem step_box (h : Sim B e hp) (cs : List AV) (vs : Array Value) (t : TypeId) (hn : vs.size = cs.length) (hr : ∀ (i : Nat) (x : AV) (v : Value), cs[i]? = some x → vs[i]? = some v → Rd e x v) :
    ∃ e', e'.w = e.w.alloc (.cells vs t) ∧ e'.β hp.boxes.length = some e.w.heap.size ∧ Sim B e' { hp with boxes := hp.boxes ++ [(cs, t)] } ∧ Adv e e' := by
  have hnew := h.β_new
  let e' : E := { e with w := e.w.alloc (.cells vs t), β := fun b => if b = hp.boxes.length then some e.w.heap.size else e.β b }
  have hold : ∀ b k, e'.β b = some k → (b = hp.boxes.length ∧ k = e.w.heap.size) ∨ e.β b = some k := fun b k hb => by
    simp only [e'] at hb
    split at hb
    · cases hb; exact .inl ⟨‹_›, rfl⟩
    · exact .inr hb
  have ha : Adv e e' := ⟨fun a ha => ⟨ha, World.cell?_alloc_lt _ _ _ (h.lt ha)⟩,
    fun b k hb => by show (if _ then _ else _) = _; rw [if_neg (fun hh => by subst hh; rw [hnew] at hb; cases hb)]; exact hb, fun _ _ h => h,
    fun t tk h => ⟨tk, h, Nat.le_refl _, fun _ => rfl, fun _ => rfl⟩, fun b k hb => (hold b k hb).elim (fun h => .inr (by omega)) .inl, fun _ _ h => .inl h,
    fun t tk' g h hg => .inl ⟨tk', h, hg⟩, by simp [e'], fun r hr _ _ _ => heap_alloc_lt _ _ hr, fun _ h => .inl h, fun b k hb => (hold b k hb).elim (fun hh => .inr (by have := h.lk; omega)) .inl, fun _ tk h => .inl ⟨tk, h⟩, fun _ _ h => .inl h, rfl, rfl, rfl, rfl, rfl, rfl, fun k r h => ⟨r, (heap_alloc_lt _ _ (lt_of_heap h)).trans h⟩, fun k vs t z h => ⟨vs, z, (heap_alloc_lt _ _ (lt_of_heap h)).trans h, rfl⟩⟩
  refine ⟨e', rfl, by simp [e'], ?_, ha⟩
  refine ⟨by have := h.base; simp [e']; omega, by have := h.lk; simp [e']; omega, fun a hS => by show ((e.w.alloc _).cell? a).isSome = true; rw [World.cell?_alloc_lt _ _ _ (h.lt hS)]; exact h.Sok a hS, ?_, ?_, ?_, h.tinj, ?_, h.linj⟩
  · intro b k hb
    rcases hold b k hb with ⟨rfl, rfl⟩ | hb
    · exact ⟨h.base, fun a hS => Nat.ne_of_lt (h.lt hS), cs, vs, t, by simp, heap_alloc_eq _ _, hn, fun i x v hx hv => (hr i x v hx hv).mono ha⟩
    · obtain ⟨h1, h2, cs', vs', t', h3, h4, h5, h6⟩ := h.box b k hb
      exact ⟨h1, h2, cs', vs', t', by simp only; rw [List.getElem?_append_left (h.β_lt hb).1]; exact h3, (heap_alloc_lt _ _ (lt_of_heap h4)).trans h4, h5, fun i x v hx hv => (h6 i x v hx hv).mono ha⟩
  · intro b b' k h1 h2
    rcases hold b k h1 with ⟨rfl, rfl⟩ | h1 <;> rcases hold b' _ h2 with ⟨rfl, h3⟩ | h2
    · rfl
    · exact absurd (h.β_lt h2).2 (by omega)
    · exact absurd (h.β_lt h1).2 (by omega)
    · exact h.inj b b' k h1 h2
  · intro t' tk htk
    obtain ⟨h1, h2⟩ := h.tok t' tk htk
    refine ⟨h1, h2.mono (fun a h => .inl h) (fun g hg => heap_alloc_lt _ _ (h2.lt hg)) (fun b g hg hb => ?_)⟩
    rcases hold b g hb with ⟨_, h3⟩ | hb
    · exact absurd (h2.lt hg) (by omega)
    · exact hb
  · intro l k hl
    obtain ⟨h1, r, f, tmps, df, h2, h3, h4⟩ := h.loop l k hl
    exact ⟨h1, r, f, tmps, df, h2, (heap_alloc_lt _ _ (lt_of_heap h3)).trans h3, fun hi => (h4 hi).mono ha⟩

theorem spot_add (b o n : Nat) : (⟨b, o, none⟩ : Addr).add n = ⟨b, o + n, none⟩ := by
  unfold Addr.add
  split
  · subst_vars; rfl
  · rfl

theorem add_add (a : Addr) (n m : Nat) : (a.add n).add m = a.add (n + m) := by
  unfold Addr.add
  by_cases h1 : n = 0 <;> by_cases h2 : m = 0 <;> simp [h1, h2] <;> omega

/-- The cells of a list of elements, one behind the other: the j-th cell of the i-th element. -/
theorem flat_get (xs : List AV) (k : Nat) (hk : ∀ x, x ∈ xs → x.cells.length = k) : ∀ (i j : Nat) (x : AV), xs[i]? = some x → j < k → (xs.flatMap AV.cells)[i * k + j]? = x.cells[j]? := by
  induction xs with
  | nil => intro i j x h; simp at h
  | cons y ys ih =>
    intro i j x hx hj
    have hy : y.cells.length = k := hk y (by simp)
    cases i with
    | zero =>
      simp at hx
      subst hx
      simp only [List.flatMap_cons, Nat.zero_mul, Nat.zero_add]
      rw [List.getElem?_append_left (by omega)]
    | succ i =>
      simp at hx
      have h1 := ih (fun x hx => hk x (by simp [hx])) i j x hx hj
      simp only [List.flatMap_cons]
      rw [List.getElem?_append_right (by rw [hy, Nat.succ_mul]; omega), ← h1]
      congr 1
      rw [hy, Nat.succ_mul]
      omega
theorem flat_length (xs : List AV) (k : Nat) (hk : ∀ x, x ∈ xs → x.cells.length = k) : (xs.flatMap AV.cells).length = xs.length * k := by
  induction xs with
  | nil => simp
  | cons y ys ih =>
    simp only [List.flatMap_cons, List.length_append, List.length_cons, ih (fun x hx => hk x (by simp [hx])), hk y (by simp)]
    rw [Nat.succ_mul]; omega

/-- A new row: its elements are read from now on; token t has it (a new one, or one whose slice was shorter). vs: the elements' cells, and spare ones behind them. -/
theorem step_row (h : Sim B e hp) (t0 : Nat) (toks' : List (Nat × Option TypeId)) (xs : List AV) (cells : Array Value) (t : TypeId) (k cap : Nat) (hpos : 0 < xs.length) (hk0 : 0 < k) (hcap : xs.length ≤ cap) (hn : cells.size = cap * k)
    (hlk : hp.toks.length ≤ toks'.length) (ht0 : (∃ tk, e.τ t0 = some tk) ∨ hp.lt ≤ t0) (ht1 : toks'[t0]? = some (xs.length, some t)) (ht2 : ∀ t' tk, e.τ t' = some tk → t' ≠ t0 → toks'[t']? = hp.toks[t']?) (ht3 : ∀ tk, e.τ t0 = some tk → tk.m < xs.length ∧ (0 < tk.m → tk.k = k))
    (hk : ∀ x, x ∈ xs → x.cells.length = k) (hd : ∀ x, x ∈ xs → x.isData = true)
    (hr : ∀ (i : Nat) (x : AV) (v : Value), (xs.flatMap AV.cells)[i]? = some x → cells[i]? = some v → Rd e x v) :
    ∃ e', e'.w = e.w.alloc (.cells cells t) ∧ Rd e' (.own t0 xs) (.slice (some ⟨e.w.heap.size, 0, none⟩) xs.length cap) ∧ Sim B e' { hp with toks := toks' } ∧ Adv e e' := by
  let tk : Tok := ⟨xs.length, k, some t, .slice (some ⟨e.w.heap.size, 0, none⟩) xs.length cap⟩
  let e' : E := { e with w := e.w.alloc (.cells cells t), S := fun a => e.S a ∨ (a.block = e.w.heap.size ∧ a.spot = none ∧ a.off < xs.length * k), τ := fun t => if t = t0 then some tk else e.τ t }
  have hle : xs.length * k ≤ cells.size := by rw [hn]; exact Nat.mul_le_mul_right k hcap
  have hcell : ∀ j, j < xs.length * k → ∃ v, e'.w.cell? ⟨e.w.heap.size, j, none⟩ = some v ∧ cells[j]? = some v := fun j hj => by
    refine ⟨cells[j]'(by omega), ?_, Array.getElem?_eq_getElem (by omega)⟩
    show (e.w.alloc (.cells cells t)).cell? _ = _
    rw [World.cell?_alloc_new]
    exact Array.getElem?_eq_getElem (by omega)
  have ha : Adv e e' := ⟨fun a ha => ⟨.inl ha, World.cell?_alloc_lt _ _ _ (h.lt ha)⟩, fun _ _ h => h, fun _ _ h => h,
    fun t tk0 ht => by
      by_cases htt : t = t0
      · subst htt
        obtain ⟨h1, h2⟩ := ht3 tk0 ht
        refine ⟨tk, by simp [e'], ?_, fun hh => ?_, fun hh => (h2 hh).symm⟩
        · simp only [tk]; omega
        · simp only [tk] at hh; omega
      · exact ⟨tk0, by show (if _ then _ else _) = _; rw [if_neg htt]; exact ht, Nat.le_refl _, fun _ => rfl, fun _ => rfl⟩,
    fun _ _ h => .inl h, fun _ _ h => .inl h, fun t tk' g ht hg => by
      simp only [e'] at ht
      split at ht
      · cases ht
        rw [Tok.blk_pos (tk := tk) hpos rfl] at hg
        cases hg
        exact .inr (Nat.le_refl _)
      · exact .inl ⟨tk', ht, hg⟩, by simp [e'], fun r hr _ _ _ => heap_alloc_lt _ _ hr, fun a hS => hS.elim .inl (fun hh => .inr (.inl (by omega))), fun _ _ h => .inl h, fun t tk' ht => by
      simp only [e'] at ht
      split at ht
      · subst_vars; rw [h.lk.2.1]; exact ht0
      · exact .inl ⟨tk', ht⟩, fun _ _ h => .inl h, rfl, rfl, rfl, rfl, rfl, rfl, fun k r h => ⟨r, (heap_alloc_lt _ _ (lt_of_heap h)).trans h⟩, fun k vs t z h => ⟨vs, z, (heap_alloc_lt _ _ (lt_of_heap h)).trans h, rfl⟩⟩
  have hlist : Rd e' (.list xs) (.slice (some ⟨e.w.heap.size, 0, none⟩) xs.length cap) := by
    refine .list xs _ cap k (fun i j => cells.getD (i * k + j) undef) hcap hd hk (fun _ => rfl) (fun a i j hA hi hj => ?_) (fun i j x y hx hy => ?_)
    · cases hA
      have hlt : i * k + j < xs.length * k := by
        calc i * k + j < i * k + k := by omega
          _ = (i + 1) * k := by rw [Nat.succ_mul]
          _ ≤ xs.length * k := Nat.mul_le_mul_right k hi
      obtain ⟨v, hv1, hv2⟩ := hcell _ hlt
      rw [spot_add]
      simp only [Nat.zero_add]
      refine ⟨.inr ⟨rfl, rfl, hlt⟩, ?_⟩
      rw [hv1]
      simp [Array.getD_eq_getD_getElem?, hv2]
    · have hlt : i < xs.length := (List.getElem?_eq_some_iff.1 hx).1
      have hj : j < k := by
        have := (List.getElem?_eq_some_iff.1 hy).1
        have := hk x (List.mem_of_getElem? hx)
        omega
      have hf := flat_get xs k hk i j x hx hj
      have hlt2 : i * k + j < xs.length * k := by
        calc i * k + j < i * k + k := by omega
          _ = (i + 1) * k := by rw [Nat.succ_mul]
          _ ≤ xs.length * k := Nat.mul_le_mul_right k hlt
      obtain ⟨v, hv1, hv2⟩ := hcell _ hlt2
      have : cells.getD (i * k + j) undef = v := by simp [Array.getD_eq_getD_getElem?, hv2]
      rw [this]
      exact (hr _ y v (hf.trans hy) hv2).mono ha
  refine ⟨e', rfl, .own _ xs _ tk hlist (by simp [e']) (Nat.le_refl _) hk (fun _ => rfl), ?_, ha⟩
  refine ⟨by have := h.base; simp [e']; omega, by have := h.lk; simp [e']; omega, ?_, ?_, h.inj, ?_, ?_, ?_, h.linj⟩
  · rintro a (hS | ⟨h1, h2, h3⟩)
    · show ((e.w.alloc _).cell? a).isSome = true
      rw [World.cell?_alloc_lt _ _ _ (h.lt hS)]; exact h.Sok a hS
    · obtain ⟨v, hv, _⟩ := hcell _ h3
      have : a = ⟨e.w.heap.size, a.off, none⟩ := by cases a; simp_all
      rw [this, hv]; rfl
  · intro b k' hb
    obtain ⟨h1, h2, cs, vs, t', h3, h4, h5, h6⟩ := h.box b k' hb
    have hlt := (h.β_lt hb).2
    exact ⟨h1, fun a hS => hS.elim (h2 a) (fun hh => by omega), cs, vs, t', h3, (heap_alloc_lt _ _ hlt).trans h4, h5, fun i x v hx hv => (h6 i x v hx hv).mono ha⟩
  · intro t' tk' htk
    simp only [e'] at htk
    split at htk
    · rename_i ht
      subst ht
      cases htk
      refine ⟨ht1, .inr ⟨hpos, hk0, e.w.heap.size, cap, cells, t, (0, 0), rfl, h.base, ⟨heap_alloc_eq _ _, rfl, Nat.zero_le _⟩, hn, hcap, fun a hS hb => ?_, fun b hb => ?_⟩⟩
      · rcases hS with hS | ⟨_, _, h3⟩
        · exact absurd (h.lt hS) (by omega)
        · exact h3
      · exact absurd (h.β_lt hb).2 (by omega)
    · rename_i hne
      obtain ⟨h1, h2⟩ := h.tok t' tk' htk
      refine ⟨(ht2 t' tk' htk hne).trans h1, h2.mono (fun a hS => ?_) (fun g hg => heap_alloc_lt _ _ (h2.lt hg)) (fun _ _ _ h => h)⟩
      rcases hS with hS | ⟨h3, _⟩
      · exact .inl hS
      · exact .inr fun g hg => by have := h2.lt hg; omega
  · intro t1 t2 tk1 tk2 g h1 h2 hg hg'
    simp only [e'] at h1 h2
    split at h1 <;> split at h2
    · subst_vars; rfl
    · cases h1
      rw [Tok.blk_pos (tk := tk) hpos rfl] at hg
      cases hg
      exact absurd ((h.tok _ _ h2).2.lt hg') (Nat.lt_irrefl _)
    · cases h2
      rw [Tok.blk_pos (tk := tk) hpos rfl] at hg'
      cases hg'
      exact absurd ((h.tok _ _ h1).2.lt hg) (Nat.lt_irrefl _)
    · exact h.tinj t1 t2 tk1 tk2 g h1 h2 hg hg'
  · intro l k' hl
    obtain ⟨h1, r, f, tmps, df, h2, h3, h4⟩ := h.loop l k' hl
    exact ⟨h1, r, f, tmps, df, h2, (heap_alloc_lt _ _ (lt_of_heap h3)).trans h3, fun hi => (h4 hi).mono ha⟩

/-- The same, of a new token. -/
theorem step_row_new (h : Sim B e hp) (xs : List AV) (cells : Array Value) (t : TypeId) (k cap : Nat) (hpos : 0 < xs.length) (hk0 : 0 < k) (hcap : xs.length ≤ cap) (hn : cells.size = cap * k)
    (hk : ∀ x, x ∈ xs → x.cells.length = k) (hd : ∀ x, x ∈ xs → x.isData = true)
    (hr : ∀ (i : Nat) (x : AV) (v : Value), (xs.flatMap AV.cells)[i]? = some x → cells[i]? = some v → Rd e x v) :
    ∃ e', e'.w = e.w.alloc (.cells cells t) ∧ Rd e' (.own hp.toks.length xs) (.slice (some ⟨e.w.heap.size, 0, none⟩) xs.length cap) ∧ Sim B e' { hp with toks := hp.toks ++ [(xs.length, some t)] } ∧ Adv e e' :=
  step_row h _ _ xs cells t k cap hpos hk0 hcap hn (by simp) (.inr h.lk.2.2.2.2.1) (by simp) (fun t' tk ht _ => List.getElem?_append_left (h.τ_lt ht)) (fun tk ht => by rw [h.τ_new] at ht; cases ht) hk hd hr

/-- A block is put in another one's place. -/
def putBlock (w : World) (k : Nat) (o : Obj) : World := { w with heap := w.heap.setIfInBounds k o }
theorem putBlock_same (w : World) (k : Nat) (o : Obj) (h : k < w.heap.size) : (putBlock w k o).heap[k]? = some o := by
  simp [putBlock, h]
theorem putBlock_other (w : World) (k r : Nat) (o : Obj) (h : r ≠ k) : (putBlock w k o).heap[r]? = w.heap[r]? := by
  simp only [putBlock]
  rw [Array.getElem?_setIfInBounds]
  rw [if_neg (fun e => h e.symm)]
theorem putBlock_size (w : World) (k : Nat) (o : Obj) : (putBlock w k o).heap.size = w.heap.size := by simp [putBlock]
theorem putBlock_cell (w : World) (k : Nat) (o : Obj) (a : Addr) (h : a.block ≠ k) : (putBlock w k o).cell? a = w.cell? a := by
  simp only [World.cell?, putBlock_other w k _ o h]

/-- A variable's block is written. -/
theorem step_put (h : Sim B e hp) (b k : Nat) (hb : e.β b = some k) (cs : List AV) (vs : Array Value) (t : TypeId) (ov : Array Value) (hold : e.w.heap[k]? = some (.cells ov t (0, 0))) (hosz : vs.size = ov.size) (hn : vs.size = cs.length)
    (hr : ∀ (i : Nat) (x : AV) (v : Value), cs[i]? = some x → vs[i]? = some v → Rd e x v) :
    ∃ e', e'.w = putBlock e.w k (.cells vs t (0, 0)) ∧ Sim B e' { hp with boxes := hp.boxes.set b (cs, t) } ∧ Adv e e' := by
  have hbl := h.β_lt hb
  obtain ⟨hk1, hk2, _⟩ := h.box b k hb
  let e' : E := { e with w := putBlock e.w k (.cells vs t (0, 0)) }
  have ha : Adv e e' := ⟨fun a hS => ⟨hS, putBlock_cell _ _ _ _ (hk2 a hS)⟩, fun _ _ h => h, fun _ _ h => h, fun t tk h => ⟨tk, h, Nat.le_refl _, fun _ => rfl, fun _ => rfl⟩,
    fun _ _ h => .inl h, fun _ _ h => .inl h, fun t tk' g h hg => .inl ⟨tk', h, hg⟩, by simp [e', putBlock_size], fun r _ hβ _ _ => putBlock_other _ _ _ _ (fun e => hβ b (e ▸ hb)), fun _ h => .inl h, fun _ _ h => .inl h, fun _ tk h => .inl ⟨tk, h⟩, fun _ _ h => .inl h, rfl, rfl, rfl, rfl, rfl, rfl, fun k' r h0 => ⟨r, (putBlock_other _ _ _ _ (fun hh : k' = k => by subst hh; obtain ⟨_, _, _, _, _, _, h4', _⟩ := h.box b _ hb; rw [h4'] at h0; cases h0)).trans h0⟩, fun k' us t1 z1 h0 => by
      by_cases hh : k' = k
      · subst hh
        rw [hold] at h0
        cases h0
        exact ⟨vs, _, putBlock_same _ _ _ (lt_of_heap hold), hosz⟩
      · exact ⟨us, z1, (putBlock_other _ _ _ _ hh).trans h0, rfl⟩⟩
  refine ⟨e', rfl, ?_, ha⟩
  refine ⟨by simpa [e', putBlock_size] using h.base, by have := h.lk; simp [e']; omega, fun a hS => by show ((putBlock _ _ _).cell? a).isSome = true; rw [putBlock_cell _ _ _ _ (hk2 a hS)]; exact h.Sok a hS, ?_, h.inj, ?_, h.tinj, ?_, h.linj⟩
  · intro b' k' hb'
    by_cases hbb : b' = b
    · subst hbb
      obtain rfl : k = k' := Option.some.inj (hb.symm.trans hb')
      exact ⟨hk1, hk2, cs, vs, t, by simp [hbl.1], putBlock_same _ _ _ hbl.2, hn, fun i x v hx hv => (hr i x v hx hv).mono ha⟩
    · obtain ⟨h1, h2, cs', vs', t', h3, h4, h5, h6⟩ := h.box b' k' hb'
      have hkk : k' ≠ k := fun hh => hbb (h.inj b' b k (hh ▸ hb') hb)
      exact ⟨h1, h2, cs', vs', t', by simp only; rw [List.getElem?_set_ne (fun e => hbb e.symm)]; exact h3, (putBlock_other _ _ _ _ hkk).trans h4, h5, fun i x v hx hv => (h6 i x v hx hv).mono ha⟩
  · intro t' tk htk
    obtain ⟨h1, h2⟩ := h.tok t' tk htk
    refine ⟨h1, h2.mono (fun a h => .inl h) (fun g hg => putBlock_other _ _ _ _ ?_) (fun _ _ _ h => h)⟩
    rintro rfl
    rcases h2 with ⟨h2, _⟩ | ⟨h20, _, g', cap, cur, el, fz, h3, _, _, _, _, _, h9⟩
    · rw [Tok.blk_zero h2] at hg; cases hg
    · rw [Tok.blk_pos h20 h3] at hg; cases hg; exact h9 b hb
  · intro l k' hl
    obtain ⟨h1, r, f, tmps, df, h2, h3, h4⟩ := h.loop l k' hl
    refine ⟨h1, r, f, tmps, df, h2, (putBlock_other _ _ _ _ ?_).trans h3, fun hi => (h4 hi).mono ha⟩
    rintro rfl
    obtain ⟨_, _, _, _, _, _, h4', _⟩ := h.box b k' hb
    rw [h3] at h4'; exact LR.obj_cells _ _ _ _ _ _ _ (Option.some.inj h4')

/-- Elements are written behind a token's slice, where there is room. -/
theorem step_in (h : Sim B e hp) (t0 : Nat) (tk : Tok) (ht : e.τ t0 = some tk) (xs ys : List AV) (cells : Array Value) (g cap : Nat) (hm : tk.m = xs.length) (hpos : 0 < tk.m) (hy : 0 < ys.length)
    (hv : tk.v = .slice (some ⟨g, 0, none⟩) tk.m cap) (hroom : xs.length + ys.length ≤ cap) (hrd : Rd e (.list xs) tk.v)
    (hkx : ∀ x, x ∈ xs → x.cells.length = tk.k) (hk : ∀ x, x ∈ ys → x.cells.length = tk.k) (hd : ∀ x, x ∈ ys → x.isData = true) (cur : Array Value) (el : TypeId) (fz : Nat × Nat) (hcur : e.w.heap[g]? = some (.cells cur el fz))
    (hsz : cells.size = cur.size) (hold : ∀ j, j < xs.length * tk.k → cells[j]? = cur[j]?)
    (hr : ∀ (i : Nat) (x : AV) (v : Value), (ys.flatMap AV.cells)[i]? = some x → cells[xs.length * tk.k + i]? = some v → Rd e x v) :
    ∃ e', e'.w = putBlock e.w g (.cells cells el fz) ∧ Rd e' (.own t0 (xs ++ ys)) (.slice (some ⟨g, 0, none⟩) (xs.length + ys.length) cap) ∧ Sim B e' { hp with toks := hp.toks.set t0 (xs.length + ys.length, tk.el) } ∧ Adv e e' := by
  obtain ⟨htoks, hok⟩ := h.tok t0 tk ht
  rcases hok with ⟨h0, _⟩ | ⟨_, hk0, g', cap', cur', el', fz', hv', hBg, ⟨hcur', hel, hfz⟩, hcs, hcap, hSg, hβg⟩
  · omega
  rw [hv] at hv'
  simp only [Value.slice.injEq, Option.some.injEq, Addr.mk.injEq, true_and, and_true] at hv'
  obtain ⟨rfl, rfl⟩ := hv'
  rw [hcur] at hcur'
  simp only [Option.some.injEq, Obj.cells.injEq] at hcur'
  obtain ⟨rfl, rfl, rfl⟩ := hcur'
  have hgl := lt_of_heap hcur
  let n := xs.length + ys.length
  let tk' : Tok := ⟨n, tk.k, tk.el, .slice (some ⟨g, 0, none⟩) n cap⟩
  let e' : E := { e with w := putBlock e.w g (.cells cells el fz), S := fun a => e.S a ∨ (a.block = g ∧ a.spot = none ∧ a.off < n * tk.k), τ := fun t => if t = t0 then some tk' else e.τ t }
  have hnk : n * tk.k ≤ cells.size := by rw [hsz, hcs]; exact Nat.mul_le_mul_right _ hroom
  have hcell : ∀ j, j < n * tk.k → ∃ v, e'.w.cell? ⟨g, j, none⟩ = some v ∧ cells[j]? = some v := fun j hj => by
    refine ⟨cells[j]'(by omega), ?_, Array.getElem?_eq_getElem (by omega)⟩
    simp only [World.cell?, e', putBlock_same _ _ _ hgl]
    exact Array.getElem?_eq_getElem (by omega)
  have hSold : ∀ a, e.S a → e'.w.cell? a = e.w.cell? a := fun a hS => by
    by_cases hb : a.block = g
    · have hlt := hSg a hS hb
      rw [hm] at hlt
      have h1 := h.Sok a hS
      simp only [World.cell?, hb, hcur] at h1
      simp only [World.cell?, e', hb, putBlock_same _ _ _ hgl, hcur]
      split at h1
      · simp at h1
      · rename_i hs
        rw [if_neg hs, if_neg hs]
        exact hold _ hlt
    · exact putBlock_cell _ _ _ _ hb
  have ha : Adv e e' := ⟨fun a hS => ⟨.inl hS, hSold a hS⟩, fun _ _ h => h, fun _ _ h => h,
    fun t tk0 ht0 => by
      by_cases htt : t = t0
      · subst htt
        obtain rfl : tk = tk0 := Option.some.inj (ht.symm.trans ht0)
        refine ⟨tk', by simp [e'], ?_, fun hh => ?_, fun _ => rfl⟩
        · simp only [tk', n]; omega
        · simp only [tk', n] at hh; omega
      · exact ⟨tk0, by show (if _ then _ else _) = _; rw [if_neg htt]; exact ht0, Nat.le_refl _, fun _ => rfl, fun _ => rfl⟩,
    fun _ _ h => .inl h, fun _ _ h => .inl h, fun t tk1 g1 ht1 hg => by
      simp only [e'] at ht1
      split at ht1
      · cases ht1
        rw [Tok.blk_pos (tk := tk') (show 0 < n by omega) rfl] at hg
        cases hg
        exact .inl ⟨tk, by subst_vars; exact ht, Tok.blk_pos hpos hv⟩
      · exact .inl ⟨tk1, ht1, hg⟩, by simp [e', putBlock_size],
    fun r hr _ _ hτ => putBlock_other _ _ _ _ (fun hh => hτ t0 tk ht (by rw [hh]; exact Tok.blk_pos hpos hv)), fun a hS => hS.elim .inl (fun hh => .inr (.inr ⟨t0, tk, ht, by rw [hh.1]; exact Tok.blk_pos hpos hv⟩)), fun _ _ h => .inl h, fun t tk1 ht1 => by
      simp only [e'] at ht1
      split at ht1
      · subst_vars; exact .inl ⟨tk, ht⟩
      · exact .inl ⟨tk1, ht1⟩, fun _ _ h => .inl h, rfl, rfl, rfl, rfl, rfl, rfl, fun k' r h0 => ⟨r, (putBlock_other _ _ _ _ (fun hh : k' = g => by subst hh; rw [hcur] at h0; cases h0)).trans h0⟩, fun k' us t1 z1 h0 => by
      by_cases hh : k' = g
      · subst hh
        rw [hcur] at h0
        cases h0
        exact ⟨cells, _, putBlock_same _ _ _ hgl, hsz⟩
      · exact ⟨us, z1, (putBlock_other _ _ _ _ hh).trans h0, rfl⟩⟩
  have hkk : ∀ x, x ∈ xs ++ ys → x.cells.length = tk.k := fun x hx => (List.mem_append.1 hx).elim (hkx x) (hk x)
  have hlist : Rd e' (.list (xs ++ ys)) (.slice (some ⟨g, 0, none⟩) (xs ++ ys).length cap) := by
    obtain ⟨hdx, A, cap0, k0, vf, hrow⟩ := hrd.list_inv
    obtain ⟨hsl, _, hkx0, hA, hc, hrx⟩ := hrow
    rw [hv] at hsl
    · simp only [Value.slice.injEq] at hsl
      obtain ⟨rfl, _, rfl⟩ := hsl
      have hk00 : k0 = tk.k := by
        cases xs with
        | nil => simp at hm; omega
        | cons x xs => rw [← hkx0 x (by simp), hkx x (by simp)]
      subst hk00
      refine .list _ _ cap tk.k (fun i j => cells.getD (i * tk.k + j) undef) (by simpa using hroom) (fun x hx => (List.mem_append.1 hx).elim (hdx x) (hd x)) hkk (fun _ => rfl) (fun a i j hA hi hj => ?_) (fun i j x y hx hy => ?_)
      · cases hA
        have hlt : i * tk.k + j < n * tk.k := by
          calc i * tk.k + j < i * tk.k + tk.k := by omega
            _ = (i + 1) * tk.k := by rw [Nat.succ_mul]
            _ ≤ n * tk.k := Nat.mul_le_mul_right _ (by simp only [List.length_append] at hi; exact hi)
        obtain ⟨v, hv1, hv2⟩ := hcell _ hlt
        rw [spot_add]
        simp only [Nat.zero_add]
        refine ⟨.inr ⟨rfl, rfl, hlt⟩, ?_⟩
        rw [hv1]
        simp [Array.getD_eq_getD_getElem?, hv2]
      · have hj : j < tk.k := by
          have := (List.getElem?_eq_some_iff.1 hy).1
          have := hkk x (List.mem_of_getElem? hx)
          omega
        by_cases hi : i < xs.length
        · rw [List.getElem?_append_left hi] at hx
          have hlt : i * tk.k + j < xs.length * tk.k := by
            calc i * tk.k + j < i * tk.k + tk.k := by omega
              _ = (i + 1) * tk.k := by rw [Nat.succ_mul]
              _ ≤ xs.length * tk.k := Nat.mul_le_mul_right _ hi
          have h1 := hc ⟨g, 0, none⟩ i j rfl hi hj
          rw [spot_add] at h1
          simp only [Nat.zero_add, World.cell?, hcur] at h1
          have h2 : cells[i * tk.k + j]? = some (vf i j) := (hold _ hlt).trans h1.2
          have : cells.getD (i * tk.k + j) undef = vf i j := by simp [Array.getD_eq_getD_getElem?, h2]
          rw [this]
          exact (hrx i j x y hx hy).mono ha
        · rw [List.getElem?_append_right (by omega)] at hx
          have hlt : i - xs.length < ys.length := (List.getElem?_eq_some_iff.1 hx).1
          have hf := flat_get ys tk.k hk (i - xs.length) j x hx hj
          have he : i * tk.k + j = xs.length * tk.k + ((i - xs.length) * tk.k + j) := by
            have : i = xs.length + (i - xs.length) := by omega
            rw [this, Nat.add_mul]; simp; omega
          have hlt2 : i * tk.k + j < n * tk.k := by
            calc i * tk.k + j < i * tk.k + tk.k := by omega
              _ = (i + 1) * tk.k := by rw [Nat.succ_mul]
              _ ≤ n * tk.k := Nat.mul_le_mul_right _ (by simp only [n]; omega)
          obtain ⟨v, hv1, hv2⟩ := hcell _ hlt2
          have : cells.getD (i * tk.k + j) undef = v := by simp [Array.getD_eq_getD_getElem?, hv2]
          rw [this]
          exact (hr _ y v (hf.trans hy) (he ▸ hv2)).mono ha
  have hlen : (xs ++ ys).length = n := by simp [n]
  rw [hlen] at hlist
  have htl : t0 < hp.toks.length := h.τ_lt ht
  refine ⟨e', rfl, .own _ _ _ tk' hlist (by simp [e']) (by simp [tk', n]) hkk (fun _ => rfl), ?_, ha⟩
  refine ⟨by simpa [e', putBlock_size] using h.base, by have := h.lk; simp [e']; omega, ?_, ?_, h.inj, ?_, ?_, ?_, h.linj⟩
  · rintro a (hS | ⟨h1, h2, h3⟩)
    · rw [hSold a hS]; exact h.Sok a hS
    · obtain ⟨v, hv, _⟩ := hcell _ h3
      have : a = ⟨g, a.off, none⟩ := by cases a; simp_all
      rw [this, hv]; rfl
  · intro b k' hb
    obtain ⟨h1, h2, cs, vs, t', h3, h4, h5, h6⟩ := h.box b k' hb
    have hkg : k' ≠ g := fun hh => hβg b (hh ▸ hb)
    exact ⟨h1, fun a hS => hS.elim (h2 a) (fun hh => by omega), cs, vs, t', h3, (putBlock_other _ _ _ _ hkg).trans h4, h5, fun i x v hx hv => (h6 i x v hx hv).mono ha⟩
  · intro t' tk1 htk
    simp only [e'] at htk
    split at htk
    · rename_i htt
      subst htt
      cases htk
      refine ⟨by simp [htl, tk', n], .inr ⟨by simp only [tk', n]; omega, hk0, g, cap, cells, el, fz, rfl, hBg, ⟨putBlock_same _ _ _ hgl, hel, Nat.le_trans hfz (Nat.mul_le_mul_right _ (by simp only [tk', n]; omega))⟩, hsz.trans hcs, by simpa [tk', n] using hroom, fun a hS hb => ?_, hβg⟩⟩
      rcases hS with hS | ⟨_, _, h3⟩
      · have h1 := hSg a hS hb
        have h2 : tk.m * tk.k ≤ n * tk.k := Nat.mul_le_mul_right _ (by simp only [n]; omega)
        show a.off < n * tk.k
        omega
      · exact h3
    · rename_i hne
      obtain ⟨h1, h2⟩ := h.tok t' tk1 htk
      have hbg : ∀ g1, tk1.blk = some g1 → g1 ≠ g := fun g1 hg1 hh => hne (h.tinj t' t0 tk1 tk g1 htk ht hg1 (by rw [hh]; exact Tok.blk_pos hpos hv))
      refine ⟨by simp only; rw [List.getElem?_set_ne (fun e => hne e.symm)]; exact h1, h2.mono (fun a hS => ?_) (fun g1 hg1 => putBlock_other _ _ _ _ (hbg g1 hg1)) (fun _ _ _ h => h)⟩
      rcases hS with hS | ⟨h3, _⟩
      · exact .inl hS
      · exact .inr fun g1 hg1 => fun hh => hbg g1 hg1 (hh.symm.trans h3)
  · intro t1 t2 tk1 tk2 g1 h1 h2 hg hg'
    simp only [e'] at h1 h2
    split at h1 <;> split at h2
    · subst_vars; rfl
    · rename_i _ hne
      cases h1
      rw [Tok.blk_pos (tk := tk') (show 0 < n by omega) rfl] at hg
      cases hg
      exact absurd (h.tinj t2 t0 tk2 tk g h2 ht hg' (Tok.blk_pos hpos hv)) hne
    · rename_i hne _
      cases h2
      rw [Tok.blk_pos (tk := tk') (show 0 < n by omega) rfl] at hg'
      cases hg'
      exact absurd (h.tinj t1 t0 tk1 tk g h1 ht hg (Tok.blk_pos hpos hv)) hne
    · exact h.tinj t1 t2 tk1 tk2 g1 h1 h2 hg hg'
  · intro l k' hl
    obtain ⟨h1, r, f, tmps, df, h2, h3, h4⟩ := h.loop l k' hl
    refine ⟨h1, r, f, tmps, df, h2, (putBlock_other _ _ _ _ ?_).trans h3, fun hi => (h4 hi).mono ha⟩
    rintro rfl
    rw [h3] at hcur; exact LR.obj_cells _ _ _ _ _ _ _ (Option.some.inj hcur)

end Go.Proofs.YtkddphdhcejdaaaDoor.AI
