/-
  Small words for proofs over the interpreter with answers supplied.
-/
import Derived.Test.YtkddphdhcejdaaaDoorCfg
set_option linter.unusedVariables false
namespace Go.Proofs.YtkddphdhcejdaaaDoor.AI
variable {C : Cfg}

def funcAt (P : Program) (f : Nat) : Option Func := P.funcs[f]?

theorem splitP (p : Prop) {G : Prop} (ht : p → G) (hf : ¬p → G) : G := (Classical.em p).elim ht hf
theorem splitB (b : Bool) {G : Prop} (ht : b = true → G) (hf : b = false → G) : G := by
  cases b with
  | true => exact ht rfl
  | false => exact hf rfl
theorem cb {a b : Bool} (h : a = b) : AV.bool a = AV.bool b := by rw [h]
theorem gb {a b : Bool} (h : a = b) : some (AV.bool a) = some (AV.bool b) := by rw [h]
theorem ob {a b : Bool} {hp : Hp} (h : a = b) : some (AV.bool a, hp) = some (AV.bool b, hp) := by rw [h]
theorem oi {k : IntKind} {a b : Int} {hp : Hp} (h : a = b) : some (AV.int k a, hp) = some (AV.int k b, hp) := by rw [h]
theorem oct {b : Bool} {x y : AV} {hp : Hp} (h : b = true) : some (if b = true then x else y, hp) = some (x, hp) := by rw [h]; rfl
theorem ocf {b : Bool} {x y : AV} {hp : Hp} (h : b = false) : some (if b = true then x else y, hp) = some (y, hp) := by rw [h]; rfl
theorem map_ok {α β : Type} {o : Option α} {x : α} {f : α → β} (h : o = some x) : o.map f = some (f x) := by rw [h]; rfl
theorem core_to {f : FuncId} {args : List AV} {hp : Hp} {r r' : AV} {h h' : Hp} (H : CoreE C f args hp r h) (e1 : r = r') (e2 : h = h') : CoreE C f args hp r' h' := by subst e1; subst e2; exact H
theorem loop_to {f : FuncId} {id n t l : Nat} {env : List AV} {hp : Hp} {x : AX} {env1 env2 : List AV} {h h' : Hp} (H : LoopE C f id n t l env hp x env1 h) (e1 : env1 = env2) (e2 : h = h') : LoopE C f id n t l env hp x env2 h' := by subst e1; subst e2; exact H
/-- A call of plain data, in whatever memory. -/
theorem call_plain {g : FuncId} {args : List AV} {hp : Hp} {r : AV} {k : Nat} (hp0 : C.prim g = none) (hd : handed C g args = args) (hr : AV.refss args = []) (hc : (Sel.mk [] [] []).cov args = true) (hren : (Sel.mk [] [] []).ren args = args)
    (hl : hp.lb = 0 ∧ hp.lt = 0 ∧ hp.ll = 0) (hk : coreStep C (ai C k) g args ⟨[], [], [], 0, 0, 0⟩ = some (r, ⟨[], [], [], 0, 0, 0⟩)) (hrr : r.ren (fbig [] hp.boxes.length) (fbig [] hp.toks.length) (fbig [] hp.loops.length) = r) : (ai C (k + 1)).call g args hp = some (r, hp) := by
  show callStep C (ai C k) g args hp = _
  have hsel : selOf hp [] args = ⟨[], [], []⟩ := by
    unfold selOf
    rw [hr]
    rfl
  have hok : (Sel.mk [] [] []).ok hp args = true := by
    unfold Sel.ok
    rw [hc, hl.1, hl.2.1, hl.2.2]
    rfl
  unfold callStep
  have hh : (Sel.mk [] [] []).hp hp = ⟨[], [], [], 0, 0, 0⟩ := rfl
  simp only [hp0, hd, hsel, hok, if_true, hren, hh, hk]
  simp only [embed, setAt, List.map_nil, List.drop_nil, List.append_nil, hrr]

theorem call_prim {g : FuncId} {F : List AV → Hp → Option (AV × Hp)} {args : List AV} {hp : Hp} {r : AV} {hp' : Hp} (hF : C.prim g = some F) (h : F args hp = some (r, hp')) : CallE C g args hp r hp' := by
  refine ⟨1, fun k hk => ?_⟩
  obtain ⟨j, rfl⟩ : ∃ j, k = j + 1 := ⟨k - 1, by omega⟩
  show callStep C (ai C j) g args hp = _
  unfold callStep
  simp only [hF]
  exact h

theorem mask_mask (keep : List Nat) : ∀ (env : List AV) (i : Nat), mask keep i (mask keep i env) = mask keep i env
  | [], _ => rfl
  | x :: xs, i => by
    simp only [mask, mask_mask keep xs (i + 1)]
    split <;> rfl

/-- A loop looks at the slots that it keeps. -/
theorem loopE_mask {f : FuncId} {id n t l : Nat} {env env0 : List AV} {hp : Hp} {x : AX} {env' : List AV} {h' : Hp} (he : mask (keepOf (C.km f) id) 0 env = env0) (H : LoopE C f id n t l env0 hp x env' h') : LoopE C f id n t l env hp x env' h' := by
  subst he
  obtain ⟨k0, H⟩ := H
  refine ⟨k0 + 1, fun k hk => ?_⟩
  have := H k (by omega)
  obtain ⟨j, rfl⟩ : ∃ j, k = j + 1 := ⟨k - 1, by omega⟩
  rw [← this]
  congr 1
  show loopStep _ _ _ _ _ _ _ _ _ _ = loopStep _ _ _ _ _ _ _ _ _ _
  unfold loopStep
  rw [mask_mask]

/-- A loop drops at its head what was laid since. -/
theorem loopE_at {f : FuncId} {id n t l : Nat} {env env0 : List AV} {hp hp0 : Hp} {x : AX} {env' : List AV} {h' : Hp} (he : mask (keepOf (C.km f) id) 0 env = env0) (h1 : trunc n t l env0 hp = some hp0) (h2 : trunc n t l env0 hp0 = some hp0)
    (H : LoopE C f id n t l env0 hp0 x env' h') : LoopE C f id n t l env hp x env' h' := by
  subst he
  obtain ⟨k0, H⟩ := H
  refine ⟨k0 + 1, fun k hk => ?_⟩
  have := H k (by omega)
  obtain ⟨j, rfl⟩ : ∃ j, k = j + 1 := ⟨k - 1, by omega⟩
  rw [← this]
  congr 1
  show loopStep _ _ _ _ _ _ _ _ _ _ = loopStep _ _ _ _ _ _ _ _ _ _
  unfold loopStep
  rw [mask_mask, h1, h2]

/-! Numbers -/
theorem wrap_i64 {n : Int} (h : -9223372036854775808 ≤ n) (h' : n < 9223372036854775808) : IntKind.wrap .i64 n = n := by
  unfold IntKind.wrap
  simp only [IntKind.bits, IntKind.signed, Bool.true_and, ge_iff_le, decide_eq_true_eq]
  split <;> omega
theorem wrap_i32 {n : Int} (h : -2147483648 ≤ n) (h' : n < 2147483648) : IntKind.wrap .i32 n = n := by
  unfold IntKind.wrap
  simp only [IntKind.bits, IntKind.signed, Bool.true_and, ge_iff_le, decide_eq_true_eq]
  split <;> omega
theorem wrap_u8 {n : Int} (h : 0 ≤ n) (h' : n < 256) : IntKind.wrap .u8 n = n := by
  unfold IntKind.wrap
  simp only [IntKind.bits, IntKind.signed, Bool.false_and, Bool.false_eq_true, if_false]
  omega
theorem wrap_u32 {n : Int} (h : 0 ≤ n) (h' : n < 4294967296) : IntKind.wrap .u32 n = n := by
  unfold IntKind.wrap
  simp only [IntKind.bits, IntKind.signed, Bool.false_and, Bool.false_eq_true, if_false]
  omega
theorem wrap_u64 {n : Int} (h : 0 ≤ n) (h' : n < 18446744073709551616) : IntKind.wrap .u64 n = n := by
  unfold IntKind.wrap
  simp only [IntKind.bits, IntKind.signed, Bool.false_and, Bool.false_eq_true, if_false]
  omega

/-! Slices that are open: elements of one kind -/
section
variable {α : Type} {enc : α → AV}

def elemSz (C : Cfg) (t : TypeId) : Option Nat := match C.P.underlying t with | some (.slice el) => sz C el | _ => none

theorem elemSz_some {t : TypeId} {s : Nat} (h : elemSz C t = some s) : ∃ el, C.P.underlying t = some (.slice el) ∧ sz C el = some s := by
  unfold elemSz at h
  split at h
  · exact ⟨_, ‹_›, h⟩
  · cases h

theorem idx_x {t : TypeId} {s : Nat} {X : AV} {xs : List AV} {y : AV} {k : IntKind} {i : Int} (hX : X.elems = some xs) (hs : elemSz C t = some s) (h0 : 0 ≤ i) (hx : xs[i.toNat]? = some y) (hc : y.cells.length = s) :
    indexAddrA C t X (.int k i) = some (.elem y.cells) := by
  obtain ⟨el, h1, h2⟩ := elemSz_some hs
  unfold indexAddrA
  simp only [h1, hX, h2, if_pos h0, hx, if_pos hc]

theorem idx_list {t : TypeId} {s : Nat} {l : List α} {x : α} {k : IntKind} {i : Int} (hx : l[i.toNat]? = some x) (hs : elemSz C t = some s) (h0 : 0 ≤ i) (hc : (enc x).cells.length = s) :
    indexAddrA C t (.list (l.map enc)) (.int k i) = some (.elem (enc x).cells) := idx_x rfl hs h0 (by rw [List.getElem?_map, hx]; rfl) hc
theorem idx_own {t : TypeId} {s : Nat} {l : List α} {x : α} {k : IntKind} {tk : Nat} {i : Int} (hx : l[i.toNat]? = some x) (hs : elemSz C t = some s) (h0 : 0 ≤ i) (hc : (enc x).cells.length = s) :
    indexAddrA C t (.own tk (l.map enc)) (.int k i) = some (.elem (enc x).cells) := idx_x rfl hs h0 (by rw [List.getElem?_map, hx]; rfl) hc

theorem idx_str {t : TypeId} {s : ByteArray} {b : UInt8} {k : IntKind} {i : Int} (hx : s[i.toNat]? = some b) (hu : C.P.underlying t = some .string) (h0 : 0 ≤ i) : indexA C t (.str s) (.int k i) = some (.int .u8 b.toNat) := by
  unfold indexA
  simp only [hu, if_pos h0, hx, Option.map_some]

theorem slice_str {t : TypeId} {s : ByteArray} {k k' : IntKind} {l h : Int} (hu : C.P.underlying t = some .string) (h0 : 0 ≤ l) (h1 : l ≤ h) (h2 : h ≤ s.size) :
    sliceA C t (.str s) (some (.int k l)) (some (.int k' h)) none = some (.str (s.extract l.toNat h.toNat)) := by
  unfold sliceA
  simp only [hu, intOr, if_pos h0, if_pos (Int.le_trans h0 h1)]
  rw [if_pos (by omega)]
theorem slice_str_lo {t : TypeId} {s : ByteArray} {k : IntKind} {l : Int} (hu : C.P.underlying t = some .string) (h0 : 0 ≤ l) (h2 : l ≤ s.size) :
    sliceA C t (.str s) (some (.int k l)) none none = some (.str (s.extract l.toNat s.size)) := by
  unfold sliceA
  simp only [hu, intOr, if_pos h0]
  rw [if_pos (by omega)]
theorem slice_str_hi {t : TypeId} {s : ByteArray} {k : IntKind} {h : Int} (hu : C.P.underlying t = some .string) (h0 : 0 ≤ h) (h2 : h ≤ s.size) :
    sliceA C t (.str s) none (some (.int k h)) none = some (.str (s.extract 0 h.toNat)) := by
  unfold sliceA
  simp only [hu, intOr, if_pos h0]
  rw [if_pos (by omega)]

theorem all_cells {l : List α} {n : Nat} (h : ∀ x, (enc x).cells.length = n) : (l.map enc).all (fun y => decide (y.cells.length = n)) = true := by
  rw [List.all_eq_true]
  intro y hy
  obtain ⟨x, _, rfl⟩ := List.mem_map.1 hy
  simp [h]

theorem toDatas_enc (h : ∀ x, (enc x).toData = some (enc x)) : ∀ l : List α, AV.toDatas (l.map enc) = some (l.map enc)
  | [] => rfl
  | x :: l => by simp only [List.map_cons, AV.toDatas, h, toDatas_enc h l]

/-- What an append asks of its types: the elements' cells, their bytes, the elements' type. -/
def appT (C : Cfg) (st xt : TypeId) : Option (Nat × Nat × TypeId) :=
  match C.P.underlying st, C.P.underlying xt with
  | some (.slice elem), some (.slice _) =>
    match sz C elem, bytesOf C elem, zeroCells C elem with
    | some (k + 1), some b, some zero => if zero.length = k + 1 ∧ 0 < b then some (k + 1, b, elem) else none
    | _, _, _ => none
  | _, _ => none

theorem append_x {st xt : TypeId} {k b : Nat} {elem : TypeId} {X : AV} {xs ys : List AV} {t n : Nat} {el : Option TypeId} {hp : Hp} (hT : appT C st xt = some (k, b, elem)) (hX : X.elems.bind AV.toDatas = some ys)
    (ht : hp.toks[t]? = some (n, el)) (hn : n = xs.length) (hel : xs.isEmpty = true ∨ el = some elem) (hlt : hp.lt ≤ t)
    (hy : ys.all (fun y => decide (y.cells.length = k)) = true) (hx : xs.all (fun y => decide (y.cells.length = k)) = true) (hb : (xs.length + ys.length) * b ≤ 140737488355328) (hne : ys.isEmpty = false) :
    appendA C #[st, xt] (.own t xs) X hp = some (.own t (xs ++ ys), { hp with toks := hp.toks.set t (xs.length + ys.length, some elem) }) := by
  unfold appT at hT
  split at hT
  case h_2 => cases hT
  rename_i e1 e2 h1 h2
  split at hT
  case h_2 => cases hT
  rename_i k' b' z h3 h4 h5
  split at hT
  case isFalse => cases hT
  rename_i hz
  cases hT
  unfold appendA
  simp only [h1, h2, h3, h4, h5, hX]
  rw [if_pos ⟨hy, hz.1⟩]
  simp only [ht]
  rw [if_pos ⟨hlt, hn, hel, hb, hz.2, hx⟩]
  simp [hne]

/-- One element more. -/
theorem append_one {st xt : TypeId} {k b : Nat} {elem : TypeId} {l : List α} {x : α} {t t2 n : Nat} {el : Option TypeId} {hp : Hp} (hT : appT C st xt = some (k, b, elem))
    (ht : hp.toks[t]? = some (n, el)) (hn : n = l.length) (hel : l = [] ∨ el = some elem) (hlt : hp.lt ≤ t) (hd : (enc x).toData = some (enc x)) (hc : ∀ x, (enc x).cells.length = k) (hb : (l.length + 1) * b ≤ 140737488355328) :
    appendA C #[st, xt] (.own t (l.map enc)) (.own t2 [enc x]) hp = some (.own t ((l ++ [x]).map enc), { hp with toks := hp.toks.set t (l.length + 1, some elem) }) := by
  have := append_x (C := C) (X := .own t2 [enc x]) (xs := l.map enc) (ys := [enc x]) hT (by simp [AV.elems, AV.toDatas, hd]) ht (by simp [hn]) (by rcases hel with rfl | h; exact .inl rfl; exact .inr h) hlt (by simp [hc]) (all_cells hc) (by simpa using hb) rfl
  simpa using this

theorem append_one0 {st xt : TypeId} {k b : Nat} {elem : TypeId} {y : AV} {t t2 : Nat} {el : Option TypeId} {hp : Hp} (hT : appT C st xt = some (k, b, elem))
    (ht : hp.toks[t]? = some (0, el)) (hlt : hp.lt ≤ t) (hd : y.toData = some y) (hc : y.cells.length = k) (hb : b ≤ 140737488355328) :
    appendA C #[st, xt] (.own t []) (.own t2 [y]) hp = some (.own t [y], { hp with toks := hp.toks.set t (1, some elem) }) := by
  have := append_x (C := C) (X := .own t2 [y]) (xs := []) (ys := [y]) hT (by simp [AV.elems, AV.toDatas, hd]) ht rfl (.inl rfl) hlt (by simp [hc]) rfl (by simpa using hb) rfl
  simpa using this

theorem append_list0 {α : Type} {enc : α → AV} {st xt : TypeId} {k b : Nat} {elem : TypeId} {m : List α} {t : Nat} {el : Option TypeId} {hp : Hp} (hT : appT C st xt = some (k, b, elem))
    (ht : hp.toks[t]? = some (0, el)) (hlt : hp.lt ≤ t) (hd : ∀ x, (enc x).toData = some (enc x)) (hc : ∀ x, (enc x).cells.length = k) (hne : m ≠ []) (hb : m.length * b ≤ 140737488355328) :
    appendA C #[st, xt] (.own t []) (.list (m.map enc)) hp = some (.own t (m.map enc), { hp with toks := hp.toks.set t (m.length, some elem) }) := by
  have := append_x (C := C) (X := .list (m.map enc)) (xs := []) (ys := m.map enc) hT (by simp [AV.elems, toDatas_enc hd]) ht rfl (.inl rfl) hlt (all_cells hc) rfl (by simpa using hb) (by cases m with | nil => exact absurd rfl hne | cons x m => rfl)
  simpa using this

/-- A list more. -/
theorem append_list {st xt : TypeId} {k b : Nat} {elem : TypeId} {l m : List α} {t n : Nat} {el : Option TypeId} {hp : Hp} (hT : appT C st xt = some (k, b, elem))
    (ht : hp.toks[t]? = some (n, el)) (hn : n = l.length) (hel : l = [] ∨ el = some elem) (hlt : hp.lt ≤ t) (hd : ∀ x, (enc x).toData = some (enc x)) (hc : ∀ x, (enc x).cells.length = k) (hne : m ≠ []) (hb : (l.length + m.length) * b ≤ 140737488355328) :
    appendA C #[st, xt] (.own t (l.map enc)) (.list (m.map enc)) hp = some (.own t ((l ++ m).map enc), { hp with toks := hp.toks.set t (l.length + m.length, some elem) }) := by
  have := append_x (C := C) (X := .list (m.map enc)) (xs := l.map enc) (ys := m.map enc) hT (by simp [AV.elems, toDatas_enc hd]) ht (by simp [hn]) (by rcases hel with rfl | h; exact .inl rfl; exact .inr h) hlt (all_cells hc) (all_cells hc) (by simpa using hb) (by cases m with | nil => exact absurd rfl hne | cons x m => rfl)
  simpa using this
end

/-- A value. -/
abbrev V (v : Int × Int) : AV := .agg [.int .i64 v.1, .int .i64 v.2]
theorem append_val {st xt : TypeId} {k b : Nat} {elem : TypeId} {l : List (Int × Int)} {x y : Int} {t t2 n : Nat} {el : Option TypeId} {hp : Hp} (hT : appT C st xt = some (k, b, elem))
    (ht : hp.toks[t]? = some (n, el)) (hn : n = l.length) (hel : l = [] ∨ el = some elem) (hlt : hp.lt ≤ t) (hc : k = 2) (hb : (l.length + 1) * b ≤ 140737488355328) :
    appendA C #[st, xt] (.own t (l.map V)) (.own t2 [.agg [.int .i64 x, .int .i64 y]]) hp = some (.own t ((l ++ [(x, y)]).map V), { hp with toks := hp.toks.set t (l.length + 1, some elem) }) :=
  append_one (enc := V) (x := (x, y)) hT ht hn hel hlt rfl (fun _ => hc.symm) hb

/-! Bytes -/
def S8 (s : ByteArray) : List AV := s.data.toList.map fun c => .int .u8 c.toNat
theorem S8_length (s : ByteArray) : (S8 s).length = s.size := by unfold S8; rw [List.length_map]; rfl
theorem S8_append (s t : ByteArray) : S8 (s ++ t) = S8 s ++ S8 t := by simp [S8]

def appB (C : Cfg) (st xt : TypeId) : Option (Nat × TypeId) :=
  match C.P.underlying st, C.P.underlying xt with
  | some (.slice elem), some .string =>
    match sz C elem, bytesOf C elem, zeroCells C elem with
    | some 1, some b, some zero => if zero.length = 1 ∧ 0 < b then some (b, elem) else none
    | _, _, _ => none
  | _, _ => none

theorem append_str {st xt : TypeId} {b : Nat} {elem : TypeId} {l s : ByteArray} {t n : Nat} {el : Option TypeId} {hp : Hp} (hT : appB C st xt = some (b, elem)) (ht : hp.toks[t]? = some (n, el)) (hn : n = l.size)
    (hel : l.size = 0 ∨ el = some elem) (hlt : hp.lt ≤ t) (hb : (l.size + s.size) * b ≤ 140737488355328) :
    appendA C #[st, xt] (.own t (S8 l)) (.str s) hp = some (.own t (S8 (l ++ s)), { hp with toks := hp.toks.set t (l.size + s.size, if s.size = 0 then el else some elem) }) := by
  unfold appB at hT
  split at hT
  case h_2 => cases hT
  rename_i e1 h1 h2
  split at hT
  case h_2 => cases hT
  rename_i b' z h3 h4 h5
  split at hT
  case isFalse => cases hT
  rename_i hz
  cases hT
  unfold appendA
  have hall : ∀ s : ByteArray, (S8 s).all (fun y => decide (y.cells.length = 1)) = true := fun s => by
    rw [List.all_eq_true]
    intro y hy
    obtain ⟨x, _, rfl⟩ := List.mem_map.1 hy
    rfl
  have hemp : ∀ s : ByteArray, (S8 s).isEmpty = true ↔ s.size = 0 := fun s => by
    rw [List.isEmpty_iff_length_eq_zero, S8_length]
  have hsrc : s.data.toList.map (fun c => AV.int .u8 c.toNat) = S8 s := rfl
  simp only [h1, h2, h3, h4, h5, if_true, hsrc]
  rw [if_pos ⟨hall s, hz.1⟩]
  simp only [ht]
  rw [if_pos ⟨hlt, by rw [S8_length]; exact hn, hel.imp (hemp l).2 id, by rw [S8_length, S8_length]; exact hb, hz.2, hall l⟩]
  rw [S8_append, S8_length, S8_length]
  by_cases hs : s.size = 0
  · rw [if_pos hs, if_pos ((hemp s).2 hs), hs]
    congr 1
    congr 1
    have hlt : t < hp.toks.length := (List.getElem?_eq_some_iff.1 ht).1
    have : hp.toks.set t (l.size + 0, el) = hp.toks := by
      apply List.ext_getElem?
      intro i
      rw [List.getElem?_set]
      split
      · subst_vars; first | exact ht.symm | (rw [if_pos hlt]; exact ht.symm)
      · rfl
    rw [this]
  · rw [if_neg hs, if_neg (fun h => hs ((hemp s).1 h))]

theorem raw_S8 {b : ByteArray} {t : Nat} {hp : Hp} (h : b.size ≠ 0) : rawA (.own t (S8 b)) hp = some (.raw t (S8 b)) := by
  have : S8 b ≠ [] := fun h0 => h (by rw [← S8_length, h0]; rfl)
  cases hs : S8 b with
  | nil => exact absurd hs this
  | cons x xs => rfl

theorem mapM_S8 : ∀ l : List UInt8, (l.map fun c => AV.int .u8 c.toNat).mapM byteOf = some l
  | [] => rfl
  | c :: l => by
    have h1 : byteOf (.int .u8 c.toNat) = some c := by
      have := c.toNat_lt
      simp only [byteOf]
      rw [if_pos (by omega)]
      simp
    rw [List.map_cons, List.mapM_cons, h1, mapM_S8 l]
    rfl

theorem rawStr_S8 {pt t : Nat} {b : ByteArray} {n : Int} {m : Nat} {el el' : TypeId} {hp : Hp} (hu : C.P.underlying pt = some (.pointer el)) (ht : hp.toks[t]? = some (m, some el')) (he : el = el') (hm : m = b.size) (hn : n = b.size)
    (hb : b.size ≤ 140737488355328) (hc : C.P.cellsOf el = 1) : rawStrA C pt (.raw t (S8 b)) (.int .i64 n) hp = some (.str b) := by
  unfold rawStrA
  simp only [hu, ht]
  rw [if_pos ⟨he, by rw [S8_length]; exact hm, by rw [S8_length]; exact hn, by omega, hc⟩]
  show ((b.data.toList.map fun c => AV.int .u8 c.toNat).mapM byteOf).map _ = _
  rw [mapM_S8]
  rfl

theorem len_S8 {ats : Array TypeId} {t : Nat} {b : ByteArray} {el : TypeId} (h : (ats[0]?).bind C.P.underlying = some (.slice el)) : lenA C ats (.own t (S8 b)) = some (.int .i64 b.size) := by
  unfold lenA
  simp only [h, AV.elems, Option.map_some, S8_length]

theorem append_str0 {st xt : TypeId} {b : Nat} {elem : TypeId} {s : ByteArray} {t : Nat} {el : Option TypeId} {hp : Hp} (hT : appB C st xt = some (b, elem)) (ht : hp.toks[t]? = some (0, el))
    (hlt : hp.lt ≤ t) (hb : s.size * b ≤ 140737488355328) :
    appendA C #[st, xt] (.own t []) (.str s) hp = some (.own t (S8 s), { hp with toks := hp.toks.set t (s.size, if s.size = 0 then el else some elem) }) := by
  have := append_str (C := C) (l := ⟨#[]⟩) (s := s) hT ht rfl (.inl rfl) hlt (by show (0 + s.size) * b ≤ _; rw [Nat.zero_add]; exact hb)
  have e1 : (⟨#[]⟩ : ByteArray) ++ s = s := ByteArray.empty_append
  have e2 : (⟨#[]⟩ : ByteArray).size = 0 := rfl
  rw [e1, e2, Nat.zero_add] at this
  exact this

/-! A string that is ranged over -/
theorem next_more {l : Nat} {hp : Hp} {r : LR} {s : ByteArray} {pos n c : Nat} (hr : hp.loops[l]? = some r) (hi : r.it = some (s, pos)) (h : pos < s.size) (hd : Utf8.decode s pos = (c, n)) :
    nextA (.iter l) hp = some (.tup [.bool true, .int .i64 pos, .int .i32 c], { hp with loops := hp.loops.set l { r with it := some (s, pos + n) } }) := by
  unfold nextA
  simp only [hr, hi, if_pos h, hd]
theorem next_done {l : Nat} {hp : Hp} {r : LR} {s : ByteArray} {pos : Nat} (hr : hp.loops[l]? = some r) (hi : r.it = some (s, pos)) (h : s.size ≤ pos) : nextA (.iter l) hp = some (.tup [.bool false], hp) := by
  unfold nextA
  simp only [hr, hi, if_neg (Nat.not_lt.2 h)]

end Go.Proofs.YtkddphdhcejdaaaDoor.AI
