/-
  The tie between the interpreter's values and memory and the model's: what a value reads as; how the two memories go on together.
-/
import Derived.Test.YtkddphdhcejdaaaDoorAiB
set_option linter.unusedVariables false
namespace Go.Proofs.YtkddphdhcejdaaaDoor.AI

/-- A token: how many elements its slice has, how many cells each, and the slice. -/
structure Tok where
  m : Nat
  k : Nat
  el : Option TypeId
  v : Value

/-- The tie: the world; the cells that nobody writes; where variables, tokens and loops lie. -/
structure E where
  w : World
  S : Addr → Prop
  β : Nat → Option Nat
  τ : Nat → Option Tok
  lp : Nat → Option Nat
  /-- below these none is turned, and none is new -/
  lb : Nat
  lt : Nat
  ll : Nat

inductive Rd (e : E) : AV → Value → Prop
  | int (k : IntKind) (n : Int) : Rd e (.int k n) (.int k n)
  | bool (b : Bool) : Rd e (.bool b) (.bool b)
  | str (s : ByteArray) : Rd e (.str s) (.string s)
  | nils : Rd e .nils (.slice none 0 0)
  | list (xs : List AV) (A : Option Addr) (cap k : Nat) (vf : Nat → Nat → Value) (hcap : xs.length ≤ cap) (hd : ∀ x, x ∈ xs → x.isData = true) (hk : ∀ x, x ∈ xs → x.cells.length = k)
      (hA : xs ≠ [] → A.isSome = true) (hc : ∀ a i j, A = some a → i < xs.length → j < k → e.S (a.add (i * k + j)) ∧ e.w.cell? (a.add (i * k + j)) = some (vf i j))
      (hr : ∀ (i j : Nat) (x y : AV), xs[i]? = some x → x.cells[j]? = some y → Rd e y (vf i j)) : Rd e (.list xs) (.slice A xs.length cap)
  | own (t : Nat) (xs : List AV) (v : Value) (tk : Tok) (hl : Rd e (.list xs) v) (ht : e.τ t = some tk) (hle : xs.length ≤ tk.m) (hk : ∀ x, x ∈ xs → x.cells.length = tk.k)
      (hv : xs.length = tk.m → v = tk.v) : Rd e (.own t xs) v
  | lits (xs : List AV) (A : Option Addr) (cap k : Nat) (vf : Nat → Nat → Value) (hcap : xs.length ≤ cap) (hk : ∀ x, x ∈ xs → x.cells.length = k)
      (hA : xs ≠ [] → A.isSome = true) (hc : ∀ a i j, A = some a → i < xs.length → j < k → e.S (a.add (i * k + j)) ∧ e.w.cell? (a.add (i * k + j)) = some (vf i j))
      (hr : ∀ (i j : Nat) (x y : AV), xs[i]? = some x → x.cells[j]? = some y → Rd e y (vf i j)) : Rd e (.lits xs) (.slice A xs.length cap)
  | agg (cs : List AV) (vs : Array Value) (hn : vs.size = cs.length) (h : ∀ (i : Nat) (x : AV) (v : Value), cs[i]? = some x → vs[i]? = some v → Rd e x v) : Rd e (.agg cs) (.agg vs)
  | tup (cs : List AV) (vs : Array Value) (hn : vs.size = cs.length) (h : ∀ (i : Nat) (x : AV) (v : Value), cs[i]? = some x → vs[i]? = some v → Rd e x v) : Rd e (.tup cs) (.tuple vs)
  | nilp : Rd e .nilp (.pointer none)
  | box (b off k : Nat) (h : e.β b = some k) : Rd e (.box b off) (.pointer (some ⟨k, off, none⟩))
  | elem (cs : List AV) (a : Addr) (vf : Nat → Value) (hc : ∀ j, j < cs.length → e.S (a.add j) ∧ e.w.cell? (a.add j) = some (vf j))
      (hr : ∀ (j : Nat) (x : AV), cs[j]? = some x → Rd e x (vf j)) : Rd e (.elem cs) (.pointer (some a))
  | fn (f : FuncId) (cap : List AV) (vs : Array Value) (hn : vs.size = cap.length) (h : ∀ (i : Nat) (x : AV) (v : Value), cap[i]? = some x → vs[i]? = some v → Rd e x v) : Rd e (.fn f cap) (.func (.func f) #[] vs)
  | yield (l k : Nat) (h : e.lp l = some k) : Rd e (.yield l) (.func (.yield k) #[] #[])
  | iter (l k : Nat) (h : e.lp l = some k) : Rd e (.iter l) (.pointer (some ⟨k, 0, none⟩))
  | raw (t : Nat) (xs : List AV) (a : Addr) (len cap : Nat) (hne : xs ≠ []) (h : Rd e (.own t xs) (.slice (some a) len cap)) : Rd e (.raw t xs) (.pointer (some a))
  | rawz (p : Option Addr) : Rd e .rawz (.pointer p)
  | nilf : Rd e .nilf .nilFunc
  | nili : Rd e .nili .nilIface
  | errv (t : TypeId) (v : Value) : Rd e .errv (.iface t v)
  | undef (v : Value) : Rd e .undef v
  | no : Rd e .no Go.undef

/-- The block of a token's slice. -/
def Tok.blk (tk : Tok) : Option Nat :=
  if tk.m = 0 then none else match tk.v with
    | .slice (some a) _ _ => some a.block
    | _ => none

theorem Tok.blk_pos {tk : Tok} {a : Addr} {l c : Nat} (h : 0 < tk.m) (hv : tk.v = .slice (some a) l c) : tk.blk = some a.block := by
  simp only [Tok.blk, hv]
  rw [if_neg (by omega)]
theorem Tok.blk_zero {tk : Tok} (h : tk.m = 0) : tk.blk = none := by simp [Tok.blk, h]

/-- How the tie goes on: nothing that was told is untold; what is new lies in new blocks; every block that is nobody's is as it was. -/
structure Adv (e e' : E) : Prop where
  S : ∀ a, e.S a → e'.S a ∧ e'.w.cell? a = e.w.cell? a
  β : ∀ b k, e.β b = some k → e'.β b = some k
  lp : ∀ b k, e.lp b = some k → e'.lp b = some k
  τ : ∀ t tk, e.τ t = some tk → ∃ tk', e'.τ t = some tk' ∧ tk.m ≤ tk'.m ∧ (tk'.m = tk.m → tk'.v = tk.v) ∧ (0 < tk.m → tk'.k = tk.k)
  nβ : ∀ b k, e'.β b = some k → e.β b = some k ∨ e.w.heap.size ≤ k
  nlp : ∀ b k, e'.lp b = some k → e.lp b = some k ∨ e.w.heap.size ≤ k
  nτ : ∀ t tk' g, e'.τ t = some tk' → tk'.blk = some g → (∃ tk, e.τ t = some tk ∧ tk.blk = some g) ∨ e.w.heap.size ≤ g
  size : e.w.heap.size ≤ e'.w.heap.size
  keep : ∀ r, r < e.w.heap.size → (∀ b, e.β b ≠ some r) → (∀ l, e.lp l ≠ some r) → (∀ t tk, e.τ t = some tk → tk.blk ≠ some r) → e'.w.heap[r]? = e.w.heap[r]?
  nS : ∀ a, e'.S a → e.S a ∨ e.w.heap.size ≤ a.block ∨ ∃ t tk, e.τ t = some tk ∧ tk.blk = some a.block
  fβ : ∀ b k, e'.β b = some k → e.β b = some k ∨ e.lb ≤ b
  fτ : ∀ t tk', e'.τ t = some tk' → (∃ tk, e.τ t = some tk) ∨ e.lt ≤ t
  flp : ∀ b k, e'.lp b = some k → e.lp b = some k ∨ e.ll ≤ b
  lb : e'.lb = e.lb
  lt : e'.lt = e.lt
  ll : e'.ll = e.ll
  os : e'.w.os = e.w.os
  tape : e'.w.tape = e.w.tape
  output : e'.w.output = e.w.output
  /-- a loop's record stays one -/
  lo : ∀ (k : Nat) (r : Loop), e.w.heap[k]? = some (Obj.loop r) → ∃ r' : Loop, e'.w.heap[k]? = some (Obj.loop r')
  /-- a block of cells stays one, of its size -/
  bl : ∀ (k : Nat) (vs : Array Value) (t : TypeId) (z : Nat × Nat), e.w.heap[k]? = some (Obj.cells vs t z) → ∃ (vs' : Array Value) (z' : Nat × Nat), e'.w.heap[k]? = some (Obj.cells vs' t z') ∧ vs'.size = vs.size

theorem Adv.refl (e : E) : Adv e e := ⟨fun _ h => ⟨h, rfl⟩, fun _ _ h => h, fun _ _ h => h, fun t tk h => ⟨tk, h, Nat.le_refl _, fun _ => rfl, fun _ => rfl⟩, fun _ _ h => .inl h, fun _ _ h => .inl h,
  fun t tk' g h hg => .inl ⟨tk', h, hg⟩, Nat.le_refl _, fun _ _ _ _ _ => rfl, fun _ h => .inl h, fun _ _ h => .inl h, fun _ tk h => .inl ⟨tk, h⟩, fun _ _ h => .inl h, rfl, rfl, rfl, rfl, rfl, rfl, fun _ r h => ⟨r, h⟩, fun _ vs t z h => ⟨vs, z, h, rfl⟩⟩

theorem Adv.trans {a b c : E} (h : Adv a b) (k : Adv b c) : Adv a c where
  S x hx := let ⟨h1, h2⟩ := h.S x hx; let ⟨k1, k2⟩ := k.S x h1; ⟨k1, k2.trans h2⟩
  β x y hx := k.β x y (h.β x y hx)
  lp x y hx := k.lp x y (h.lp x y hx)
  τ t tk ht := by
    obtain ⟨tk1, h1, h2, h3, h4⟩ := h.τ t tk ht
    obtain ⟨tk2, k1, k2, k3, k4⟩ := k.τ t tk1 h1
    refine ⟨tk2, k1, Nat.le_trans h2 k2, fun e => ?_, fun e => ?_⟩
    · rw [k3 (by omega), h3 (by omega)]
    · rw [k4 (by omega), h4 e]
  nβ x y hx := by
    rcases k.nβ x y hx with hx | hx
    · exact h.nβ x y hx
    · exact .inr (Nat.le_trans h.size hx)
  nlp x y hx := by
    rcases k.nlp x y hx with hx | hx
    · exact h.nlp x y hx
    · exact .inr (Nat.le_trans h.size hx)
  nτ t tk' g ht hg := by
    rcases k.nτ t tk' g ht hg with ⟨tk, h1, h2⟩ | hx
    · exact h.nτ t tk g h1 h2
    · exact .inr (Nat.le_trans h.size hx)
  size := Nat.le_trans h.size k.size
  keep r hr hβ hl hτ := by
    refine (k.keep r (Nat.lt_of_lt_of_le hr h.size) ?_ ?_ ?_).trans (h.keep r hr hβ hl hτ)
    · intro b hb
      rcases h.nβ b r hb with hb | hb
      · exact hβ b hb
      · omega
    · intro b hb
      rcases h.nlp b r hb with hb | hb
      · exact hl b hb
      · omega
    · intro t tk ht hb
      rcases h.nτ t tk r ht hb with ⟨tk0, h1, h2⟩ | hb
      · exact hτ t tk0 h1 h2
      · omega
  nS x hx := by
    rcases k.nS x hx with hx | hx | ⟨t, tk, ht, hb⟩
    · exact h.nS x hx
    · exact .inr (.inl (Nat.le_trans h.size hx))
    · rcases h.nτ t tk _ ht hb with ⟨tk0, h1, h2⟩ | hx
      · exact .inr (.inr ⟨t, tk0, h1, h2⟩)
      · exact .inr (.inl hx)
  fβ x y hx := by
    rcases k.fβ x y hx with hx | hx
    · exact h.fβ x y hx
    · exact .inr (h.lb ▸ hx)
  fτ t tk ht := by
    rcases k.fτ t tk ht with ⟨tk0, hx⟩ | hx
    · exact h.fτ t tk0 hx
    · exact .inr (h.lt ▸ hx)
  flp x y hx := by
    rcases k.flp x y hx with hx | hx
    · exact h.flp x y hx
    · exact .inr (h.ll ▸ hx)
  lb := k.lb.trans h.lb
  lt := k.lt.trans h.lt
  ll := k.ll.trans h.ll
  os := k.os.trans h.os
  tape := k.tape.trans h.tape
  output := k.output.trans h.output
  lo x r hr := let ⟨r1, h1⟩ := h.lo x r hr; k.lo x r1 h1
  bl x vs t z hr := let ⟨v1, z1, h1, s1⟩ := h.bl x vs t z hr; let ⟨v2, z2, h2, s2⟩ := k.bl x v1 t z1 h1; ⟨v2, z2, h2, s2.trans s1⟩

/-- As far as values go: nothing that was told is untold. -/
structure Ext (e e' : E) : Prop where
  S : ∀ a, e.S a → e'.S a ∧ e'.w.cell? a = e.w.cell? a
  β : ∀ b k, e.β b = some k → e'.β b = some k
  lp : ∀ b k, e.lp b = some k → e'.lp b = some k
  τ : ∀ t tk, e.τ t = some tk → ∃ tk', e'.τ t = some tk' ∧ tk.m ≤ tk'.m ∧ (tk'.m = tk.m → tk'.v = tk.v) ∧ (0 < tk.m → tk'.k = tk.k)

theorem Adv.ext {e e' : E} (h : Adv e e') : Ext e e' := ⟨h.S, h.β, h.lp, h.τ⟩

theorem Rd.ext {e e' : E} (h : Ext e e') {x : AV} {v : Value} (hx : Rd e x v) : Rd e' x v := by
  induction hx with
  | int k n => exact .int k n
  | bool b => exact .bool b
  | str s => exact .str s
  | nils => exact .nils
  | list xs A cap k vf hcap hd hk hA hc hr ih =>
    exact .list xs A cap k vf hcap hd hk hA (fun a i j hA hi hj => let ⟨h1, h2⟩ := hc a i j hA hi hj; let ⟨h3, h4⟩ := h.S _ h1; ⟨h3, h4.trans h2⟩) ih
  | own t xs v tk hl ht hle hk hv ih =>
    obtain ⟨tk', h1, h2, h3, h4⟩ := h.τ t tk ht
    refine .own t xs v tk' ih h1 (Nat.le_trans hle h2) (fun x hx => ?_) (fun e => ?_)
    · rw [hk x hx]
      have : 0 < xs.length := List.length_pos_of_mem hx
      exact (h4 (by omega)).symm
    · have e1 : tk'.m = tk.m := by omega
      rw [h3 e1]; exact hv (by omega)
  | lits xs A cap k vf hcap hk hA hc hr ih =>
    exact .lits xs A cap k vf hcap hk hA (fun a i j hA hi hj => let ⟨h1, h2⟩ := hc a i j hA hi hj; let ⟨h3, h4⟩ := h.S _ h1; ⟨h3, h4.trans h2⟩) ih
  | agg cs vs hn h ih => exact .agg cs vs hn ih
  | tup cs vs hn h ih => exact .tup cs vs hn ih
  | nilp => exact .nilp
  | box b off k hb => exact .box b off k (h.β b k hb)
  | elem cs a vf hc hr ih => exact .elem cs a vf (fun j hj => let ⟨h1, h2⟩ := hc j hj; let ⟨h3, h4⟩ := h.S _ h1; ⟨h3, h4.trans h2⟩) ih
  | fn f cap vs hn h ih => exact .fn f cap vs hn ih
  | yield l k hl => exact .yield l k (h.lp l k hl)
  | iter l k hl => exact .iter l k (h.lp l k hl)
  | raw t xs a len cap hne hr ih => exact .raw t xs a len cap hne ih
  | rawz p => exact .rawz p
  | nilf => exact .nilf
  | nili => exact .nili
  | errv t v => exact .errv t v
  | undef v => exact .undef v
  | no => exact .no

theorem Rd.mono {e e' : E} (h : Adv e e') {x : AV} {v : Value} (hx : Rd e x v) : Rd e' x v := hx.ext h.ext

/-- What a row reads as. -/
structure Row (e : E) (xs : List AV) (v : Value) (A : Option Addr) (cap k : Nat) (vf : Nat → Nat → Value) : Prop where
  hv : v = .slice A xs.length cap
  hcap : xs.length ≤ cap
  hk : ∀ x, x ∈ xs → x.cells.length = k
  hA : xs ≠ [] → A.isSome = true
  hc : ∀ a i j, A = some a → i < xs.length → j < k → e.S (a.add (i * k + j)) ∧ e.w.cell? (a.add (i * k + j)) = some (vf i j)
  hr : ∀ (i j : Nat) (x y : AV), xs[i]? = some x → x.cells[j]? = some y → Rd e y (vf i j)

theorem Rd.list_inv {e : E} {xs : List AV} {v : Value} (h : Rd e (.list xs) v) : (∀ x, x ∈ xs → x.isData = true) ∧ ∃ A cap k vf, Row e xs v A cap k vf := by
  generalize hx : AV.list xs = x at h
  cases h <;> cases hx
  rename_i A cap k vf hcap hd hk hA hc hr
  exact ⟨hd, A, cap, k, vf, rfl, hcap, hk, hA, hc, hr⟩

theorem Rd.row {e : E} {x : AV} {xs : List AV} {v : Value} (h : Rd e x v) (hx : x.elems = some xs) : ∃ A cap k vf, Row e xs v A cap k vf := by
  cases h with
  | nils =>
    cases hx
    exact ⟨none, 0, 0, fun _ _ => Go.undef, rfl, by simp, by simp, by simp, by simp, by simp⟩
  | list xs' A cap k vf hcap hd hk hA hc hr =>
    cases hx
    exact ⟨_, _, _, _, rfl, hcap, hk, hA, hc, hr⟩
  | own t xs' v tk hl ht hle hk hv =>
    cases hx
    exact hl.list_inv.2
  | lits xs' A cap k vf hcap hk hA hc hr =>
    cases hx
    exact ⟨_, _, _, _, rfl, hcap, hk, hA, hc, hr⟩
  | _ => cases hx

/-- Temporaries. -/
def EnvOk (e : E) (env : List AV) (tmps : Array Value) : Prop := tmps.size = env.length ∧ ∀ (i : Nat) (x : AV) (v : Value), env[i]? = some x → tmps[i]? = some v → Rd e x v

theorem EnvOk.mono {e e' : E} (h : Adv e e') {env : List AV} {tmps : Array Value} (he : EnvOk e env tmps) : EnvOk e' env tmps :=
  ⟨he.1, fun i x v hx hv => (he.2 i x v hx hv).mono h⟩

/-- A token's slice: nil, or a row of its own. -/
def TokOk (B : Nat) (e : E) (tk : Tok) : Prop :=
  (tk.m = 0 ∧ ∃ A, tk.v = .slice A 0 0 ∧ (tk.el = none → A = none)) ∨
  (0 < tk.m ∧ 0 < tk.k ∧ ∃ g cap cur el fz, tk.v = .slice (some ⟨g, 0, none⟩) tk.m cap ∧ B ≤ g ∧ (e.w.heap[g]? = some (.cells cur el fz) ∧ tk.el = some el ∧ fz.2 ≤ tk.m * tk.k) ∧ cur.size = cap * tk.k ∧ tk.m ≤ cap ∧
    (∀ a, e.S a → a.block = g → a.off < tk.m * tk.k) ∧ (∀ b, e.β b ≠ some g))

/-- What lies in the heap for a loop, or for a string that is ranged over. -/
def LR.obj (r : LR) (f : FuncId) (tmps : Array Value) (df : Nat) : Obj :=
  match r.it with
  | some (s, pos) => .stringIter s pos
  | none => .loop { state := r.state, pending := r.pending, fn := f, tmps := tmps, params := r.params.toArray, assign := r.assign, body := r.body, defers := df }

theorem LR.obj_cells (r : LR) (f : FuncId) (tmps : Array Value) (df : Nat) (c : Array Value) (t : TypeId) (z : Nat × Nat) : r.obj f tmps df ≠ .cells c t z := by
  unfold LR.obj
  split <;> simp
theorem LR.obj_deferred (r : LR) (f : FuncId) (tmps : Array Value) (df : Nat) (d : Option (List Deferred)) : r.obj f tmps df ≠ .deferred d := by
  unfold LR.obj
  split <;> simp

/-- The two memories. -/
structure Sim (B : Nat) (e : E) (hp : Hp) : Prop where
  base : B ≤ e.w.heap.size
  lk : e.lb = hp.lb ∧ e.lt = hp.lt ∧ e.ll = hp.ll ∧ hp.lb ≤ hp.boxes.length ∧ hp.lt ≤ hp.toks.length ∧ hp.ll ≤ hp.loops.length
  Sok : ∀ a, e.S a → (e.w.cell? a).isSome = true
  box : ∀ b k, e.β b = some k → B ≤ k ∧ (∀ a, e.S a → a.block ≠ k) ∧ ∃ (cs : List AV) (vs : Array Value) (t : TypeId), hp.boxes[b]? = some (cs, t) ∧ e.w.heap[k]? = some (.cells vs t (0, 0)) ∧ vs.size = cs.length ∧
    (∀ (i : Nat) (x : AV) (v : Value), cs[i]? = some x → vs[i]? = some v → Rd e x v)
  inj : ∀ b b' k, e.β b = some k → e.β b' = some k → b = b'
  tok : ∀ t tk, e.τ t = some tk → hp.toks[t]? = some (tk.m, tk.el) ∧ TokOk B e tk
  tinj : ∀ t t' tk tk' g, e.τ t = some tk → e.τ t' = some tk' → tk.blk = some g → tk'.blk = some g → t = t'
  loop : ∀ l k, e.lp l = some k → B ≤ k ∧ ∃ r f tmps df, hp.loops[l]? = some r ∧
    e.w.heap[k]? = some (r.obj f tmps df) ∧ (r.it = none → EnvOk e r.env tmps)
  linj : ∀ b b' k, e.lp b = some k → e.lp b' = some k → b = b'

end Go.Proofs.YtkddphdhcejdaaaDoor.AI
