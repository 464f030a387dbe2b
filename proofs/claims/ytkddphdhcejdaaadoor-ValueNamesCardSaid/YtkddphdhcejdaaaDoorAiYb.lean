/-
  What an argument of a type reads as: the interpreter's value of it, by the type.
-/
import Derived.Test.YtkddphdhcejdaaaDoorAiYa
import Derived.WideShapes
import Derived.Carry
set_option linter.unusedVariables false
namespace Go.Proofs.YtkddphdhcejdaaaDoor.AI
open Go.RowKit Go.ChangeShapes Go.WideShapes
variable {C : Cfg}

/-- Whatever is read at this type, the interpreter has a value for it, and that is so. -/
def Reads (C : Cfg) (k : Nat) (t : TypeId) (Q : List AV → Prop) : Prop :=
  ∀ (H : Type) (enc : TypeId × Value → H) (W : World) (base : Nat) (spare : Nat → Bool) (held : Bool) (fuel : Nat) (cs : List Value) (d : DataW H) (ps : List MemPlace),
    DataW.trod enc C.P W base spare held fuel t cs = some (d, ps) → ∃ xs, avOf C k t d = some xs ∧ Q xs

theorem reads_int {n : Nat} {t : TypeId} {k : IntKind} (ht : C.P.underlying t = some (.int k)) : Reads C (n + 1) t fun xs => ∃ z, xs = [.int k z] ∧ (Lit.int k z).wf = true := by
  intro H enc W base spare held fuel cs d ps h
  obtain ⟨z, rfl, hx, hw⟩ := DataW.trod_int ht h
  cases hx
  exact ⟨_, by simp [avOf, ht], z, rfl, hw⟩

theorem reads_bool {n : Nat} {t : TypeId} (ht : C.P.underlying t = some .bool) : Reads C (n + 1) t fun xs => ∃ b, xs = [.bool b] := by
  intro H enc W base spare held fuel cs d ps h
  obtain ⟨z, rfl, hx⟩ := DataW.trod_bool ht h
  cases hx
  exact ⟨_, by simp [avOf, ht], z, rfl⟩

theorem reads_str {n : Nat} {t : TypeId} (ht : C.P.underlying t = some .string) : Reads C (n + 1) t fun xs => ∃ s : ByteArray, xs = [.str s] ∧ s.size ≤ maxLen := by
  intro H enc W base spare held fuel cs d ps h
  obtain ⟨s, rfl, hx, hs⟩ := DataW.trod_string ht h
  cases hx
  exact ⟨[.str s], by simp [avOf, ht], s, rfl, hs⟩

theorem mapM_all {α β : Type} {f : α → Option β} {R : β → Prop} : ∀ {l : List α}, (∀ x ∈ l, ∃ y, f x = some y ∧ R y) → ∃ r, l.mapM f = some r ∧ ∀ y ∈ r, R y
  | [], _ => ⟨[], rfl, fun _ h => by cases h⟩
  | x :: l, h => by
    obtain ⟨y, h1, h2⟩ := h x (List.mem_cons_self ..)
    obtain ⟨r, h3, h4⟩ := mapM_all (l := l) (fun z hz => h z (List.mem_cons_of_mem _ hz))
    refine ⟨y :: r, by simp [List.mapM_cons, h1, h3], fun z hz => ?_⟩
    rcases List.mem_cons.1 hz with rfl | hz
    · exact h2
    · exact h4 z hz

theorem reads_slice {n : Nat} {t e : TypeId} {agg : Bool} {Q : List AV → Prop} {R : AV → Prop} (ht : C.P.underlying t = some (.slice e)) (ha : aggT C e = agg) (he : Reads C n e Q)
    (hq : ∀ xs, Q xs → xs.length = C.P.cellsOf e ∧ ∃ x, asEl agg xs = some x ∧ x.isData = true ∧ R x) : Reads C (n + 1) t fun xs => ∃ l, xs = [.list l] ∧ ∀ x ∈ l, R x := by
  intro H enc W base spare held fuel cs d ps h
  rcases DataW.trod_slice ht h with ⟨rfl, hx⟩ | ⟨a, len, cap, elems, rest, m, rfl, rfl, hx, _, _, _, hl, hel, _⟩
  · cases hx
    exact ⟨_, by simp [avOf, ht], [], rfl, fun _ h => by cases h⟩
  · cases hx
    obtain ⟨r, h1, h2⟩ := mapM_all (l := elems.map (·.1)) (f := fun d => (avOf C n e d).bind fun cs => if cs.length = C.P.cellsOf e then asEl (aggT C e) cs else none) (R := fun x => (x.isData && decide (x.cells.length = C.P.cellsOf e)) = true ∧ R x) (fun d hd => by
      obtain ⟨y, hy, rfl⟩ := List.mem_map.1 hd
      obtain ⟨i, hi⟩ := List.getElem?_of_mem hy
      have hlt : i < len := by have := (List.getElem?_eq_some_iff.1 hi).1; omega
      have h3 := hel i hlt
      rw [hi, Option.bind_eq_some_iff] at h3
      obtain ⟨cs', _, h4⟩ := h3
      obtain ⟨xs, h5, h6⟩ := he H enc W base spare held m cs' y.1 y.2 h4
      obtain ⟨h7, x, h8, h9, h10⟩ := hq xs h6
      refine ⟨x, by rw [h5, Option.bind_some, if_pos h7, ha, h8], ?_, h10⟩
      rw [h9, asEl_cells h8, h7]
      simp)
    refine ⟨[.list r], ?_, r, rfl, fun x hx => (h2 x hx).2⟩
    unfold avOf
    rw [ht]
    simp only [h1]
    rw [if_pos]
    exact List.all_eq_true.2 fun x hx => (h2 x hx).1

/-- A struct's parts, one behind the other. -/
def Parts : List (List AV → Prop) → List AV → Prop
  | [], xs => xs = []
  | Q :: Qs, xs => ∃ a b, xs = a ++ b ∧ Q a ∧ Parts Qs b

theorem parts_of : ∀ {Qs : List (List AV → Prop)} {ps : List (List AV)}, ps.length = Qs.length → (∀ (i : Nat) (Q : List AV → Prop) (p : List AV), Qs[i]? = some Q → ps[i]? = some p → Q p) → Parts Qs ps.flatten
  | [], ps, hl, _ => by obtain rfl : ps = [] := List.length_eq_zero_iff.1 hl; rfl
  | Q :: Qs, [], hl, _ => by simp at hl
  | Q :: Qs, p :: ps, hl, h => ⟨p, ps.flatten, rfl, h 0 Q p rfl rfl, parts_of (by simpa using hl) fun i Q' p' hQ hp => h (i + 1) Q' p' (by simpa using hQ) (by simpa using hp)⟩

theorem mapM_zip {α β γ : Type} {f : α × β → Option γ} : ∀ {l : List (α × β)} {m : Nat}, l.length = m → (∀ i, i < m → ∃ x y, l[i]? = some x ∧ f x = some y) → ∃ r, l.mapM f = some r ∧ r.length = m ∧ ∀ (i : Nat) x y, l[i]? = some x → r[i]? = some y → f x = some y
  | [], m, hl, _ => by subst hl; exact ⟨[], rfl, rfl, fun i x y hx => by simp at hx⟩
  | z :: l, m, hl, h => by
    subst hl
    obtain ⟨x, y, h1, h2⟩ := h 0 (by simp)
    cases h1
    obtain ⟨r, h3, h4, h5⟩ := mapM_zip (l := l) (f := f) rfl (fun i hi => by
      obtain ⟨x, y, h1, h2⟩ := h (i + 1) (by simpa using hi)
      exact ⟨x, y, by simpa using h1, h2⟩)
    refine ⟨y :: r, by simp [List.mapM_cons, h2, h3], by simp [h4], fun i x' y' hx hy => ?_⟩
    cases i with
    | zero => simp at hx hy; subst hx hy; exact h2
    | succ i => exact h5 i x' y' (by simpa using hx) (by simpa using hy)

theorem reads_struct {n : Nat} {t : TypeId} {fs : Array Field} {Qs : List (List AV → Prop)} (ht : C.P.underlying t = some (.struct fs)) (hc : consecutive C.P 0 fs.toList = true) (hl : Qs.length = fs.size)
    (hQ : ∀ (i : Nat) (f : Field) (Q : List AV → Prop), fs[i]? = some f → Qs[i]? = some Q → Reads C n f.type Q ∧ ∀ xs, Q xs → xs.length = C.P.cellsOf f.type) (hs : ((fs.toList.map fun f => C.P.cellsOf f.type).sum) = C.P.cellsOf t) :
    Reads C (n + 1) t (Parts Qs) := by
  intro H enc W base spare held fuel cs d ps h
  obtain ⟨xs, m, rfl, hx, _, hxl, hxs⟩ := DataW.trod_struct ht h
  cases hx
  have hzl : (fs.toList.zip (xs.map (·.1))).length = fs.size := by simp [hxl]
  have hget : ∀ i, i < fs.size → ∃ f x, fs[i]? = some f ∧ xs[i]? = some x ∧ (fs.toList.zip (xs.map (·.1)))[i]? = some (f, x.1) := fun i hi => by
    refine ⟨fs[i], xs[i]'(by omega), by simp [hi], List.getElem?_eq_getElem (by omega), ?_⟩
    rw [List.getElem?_zip_eq_some]
    simp [hi, show i < xs.length by omega]
  have hone : ∀ (i : Nat) f x, fs[i]? = some f → xs[i]? = some x → ∃ Q ys, Qs[i]? = some Q ∧ avOf C n f.type x.1 = some ys ∧ Q ys ∧ ys.length = C.P.cellsOf f.type := fun i f x hf hx => by
    have hi : i < fs.size := (Array.getElem?_eq_some_iff.1 hf).1
    have hq := List.getElem?_eq_getElem (l := Qs) (show i < Qs.length by omega)
    obtain ⟨h1, h2⟩ := hQ i f _ hf hq
    have h3 := hxs i f hf
    rw [hx] at h3
    obtain ⟨ys, h4, h5⟩ := h1 H enc W base spare held m _ x.1 x.2 h3
    exact ⟨_, ys, hq, h4, h5, h2 ys h5⟩
  obtain ⟨r, h1, h2, h3⟩ := mapM_zip (f := fun p : Field × DataW H => (avOf C n p.1.type p.2).bind fun cs => if cs.length = C.P.cellsOf p.1.type then some cs else none) hzl (fun i hi => by
    obtain ⟨f, x, h1, h2, h3⟩ := hget i hi
    obtain ⟨Q, ys, _, h4, _, h5⟩ := hone i f x h1 h2
    exact ⟨_, ys, h3, by simp [h4, h5]⟩)
  have hval : ∀ (i : Nat) p, r[i]? = some p → ∃ f Q, fs[i]? = some f ∧ Qs[i]? = some Q ∧ Q p ∧ p.length = C.P.cellsOf f.type := fun i p hp => by
    have hi : i < fs.size := by have := (List.getElem?_eq_some_iff.1 hp).1; omega
    obtain ⟨f, x, h4, h5, h6⟩ := hget i hi
    obtain ⟨Q, ys, h7, h8, h9, h10⟩ := hone i f x h4 h5
    have h11 := h3 i _ p h6 hp
    simp only [h8, Option.bind_some, if_pos h10, Option.some.injEq] at h11
    subst h11
    exact ⟨f, Q, h4, h7, h9, h10⟩
  have hsum : r.flatten.length = C.P.cellsOf t := by
    rw [← hs, List.length_flatten]
    congr 1
    apply List.ext_getElem?
    intro i
    simp only [List.getElem?_map]
    by_cases hi : i < fs.size
    · obtain ⟨f, Q, h4, _, _, h5⟩ := hval i (r[i]'(by omega)) (List.getElem?_eq_getElem (by omega))
      have h6 : fs.toList[i]? = some f := by simpa using h4
      rw [h6, List.getElem?_eq_getElem (show i < r.length by omega)]
      simp [h5]
    · rw [List.getElem?_eq_none (by omega), List.getElem?_eq_none (by simp; omega)]
      rfl
  refine ⟨r.flatten, ?_, parts_of (by omega) fun i Q p hq hp => ?_⟩
  · unfold avOf
    rw [ht]
    simp only [h1]
    rw [if_pos ⟨hc, by simp [hxl]⟩, Option.bind_some, if_pos hsum]
  · obtain ⟨_, Q', _, h5, h6, _⟩ := hval i p hp
    rw [hq] at h5
    cases h5
    exact h6

/-- A value of one cell. -/
theorem arg_one {W : World} {x : AV} {v : Value} (h : CellsRd (start W) [x] v.cells.toList) (hv : v.cells = #[v]) : Rd (start W) x v := by
  rw [hv] at h
  exact h.2 0 x v rfl rfl

/-- A variable that holds an error. -/
theorem gl_err' {W : World} {laid : List (String × DataW Unit)} (h : laidMet C.P laid W) {name nm : String} {d : DataW Unit} {g : Nat} {t : TypeId} (hm : (name, DataW.iface nm d) ∈ laid)
    (hn : C.P.globalNamed name = some g) (hty : (C.P.globals[g]?).map (·.type) = some t) (ht : (match C.P.underlying t with | some (.interface _) => true | _ => false) = true) : GlAt C W g [.errv] := by
  split at ht
  · rename_i ms hms
    exact gl_err h hm hn hty hms
  · cases ht

/-- Behind the call an argument reads as it did. -/
theorem trod_back {H : Type} {enc : TypeId × Value → H} {t : TypeId} (hl : laidOutB C.P = true) (hr : C.P.readableRec t = true) (hrow : t < C.P.types.size) {W W' : World} {sp : Nat → Bool} {v : Value} {d : DataW H} {ps : List MemPlace}
    (h : DataW.Trod enc C.P W 0 (fun _ => true) true t v d ps) (hb : Below W.heap.size W W') (hlt : ∀ x ∈ ps, x.block < W.heap.size) (hsp : ∀ x ∈ ps, sp x.block = true) : DataW.Trod enc C.P W' 0 sp true t v d ps :=
  WideElems.Trod_stays hl hr hrow h (fun x hx => hb.same (hlt x hx)) hsp

/-- A list of integers. -/
theorem ints_of {k : IntKind} : ∀ {l : List AV}, (∀ x ∈ l, ∃ z, x = .int k z) → ∃ zs : List Int, l = zs.map fun z => .int k z
  | [], _ => ⟨[], rfl⟩
  | x :: l, h => by
    obtain ⟨z, rfl⟩ := h x (List.mem_cons_self ..)
    obtain ⟨zs, rfl⟩ := ints_of (l := l) fun y hy => h y (List.mem_cons_of_mem _ hy)
    exact ⟨z :: zs, rfl⟩

theorem reads_ints {n : Nat} {t e : TypeId} {k : IntKind} (ht : C.P.underlying t = some (.slice e)) (he : C.P.underlying e = some (.int k)) (hc : C.P.cellsOf e = 1) : Reads C (n + 2) t fun xs => ∃ zs : List Int, xs = [.list (zs.map fun z => .int k z)] := by
  intro H enc W base spare held fuel cs d ps h
  obtain ⟨xs, h1, l, rfl, h2⟩ := reads_slice (n := n + 1) (agg := false) (R := fun x => ∃ z, x = .int k z) ht (by unfold aggT; rw [he]) (reads_int he) (fun xs ⟨z, hx, _⟩ => by
    subst hx
    exact ⟨hc.symm, .int k z, rfl, rfl, z, rfl⟩) H enc W base spare held fuel cs d ps h
  obtain ⟨zs, rfl⟩ := ints_of h2
  exact ⟨_, h1, zs, rfl⟩

/-- The arguments in a row. -/
theorem args_cons {W : World} {x : AV} {v : Value} {xs : List AV} {vs : List Value} (h : Rd (start W) x v) (hs : CellsRd (start W) xs vs) : CellsRd (start W) (x :: xs) (v :: vs) :=
  ⟨by simp [hs.1], fun i y u hy hu => by
    cases i with
    | zero => simp at hy hu; subst hy hu; exact h
    | succ i => exact hs.2 i y u (by simpa using hy) (by simpa using hu)⟩
theorem args_nil {W : World} : CellsRd (start W) [] [] := ⟨rfl, fun i y u hy => by simp at hy⟩

end Go.Proofs.YtkddphdhcejdaaaDoor.AI
