/-
  Each operation of the interpreter's is the model's: loads, stores, new variables.
-/
import Derived.Test.YtkddphdhcejdaaaDoorAiF
set_option linter.unusedVariables false
set_option linter.unusedSimpArgs false
namespace Go.Proofs.YtkddphdhcejdaaaDoor.AI
open Go.RowKit
variable {C : Cfg} {B : Nat} {e : E} {hp : Hp}

/-- New tokens for nil slices. -/
theorem settle1_ok (h : Sim B e hp) {x : AV} {v : Value} (hx : Rd e x v) :
    ∃ e', e'.w = e.w ∧ Rd e' (settle1 x hp).1 v ∧ Sim B e' (settle1 x hp).2 ∧ Adv e e' := by
  cases x with
  | nils =>
    cases hx
    exact step_nil h
  | _ => exact ⟨e, rfl, hx, h, .refl e⟩

theorem settles_length : ∀ (cs : List AV) (hp : Hp), (settles cs hp).1.length = cs.length
  | [], hp => rfl
  | x :: xs, hp => by simp [settles, settles_length xs]

theorem settles_ok : ∀ (cs : List AV) (vs : List Value) {e : E} {hp : Hp} (h : Sim B e hp) (hl : vs.length = cs.length) (hx : ∀ (i : Nat) (x : AV) (v : Value), cs[i]? = some x → vs[i]? = some v → Rd e x v),
    ∃ e', e'.w = e.w ∧ (∀ (i : Nat) (x : AV) (v : Value), (settles cs hp).1[i]? = some x → vs[i]? = some v → Rd e' x v) ∧ Sim B e' (settles cs hp).2 ∧ Adv e e'
  | [], vs, e, hp, h, hl, hx => ⟨e, rfl, fun i x v hx => by simp [settles] at hx, h, .refl e⟩
  | c :: cs, [], e, hp, h, hl, hx => by simp at hl
  | c :: cs, v :: vs, e, hp, h, hl, hx => by
    obtain ⟨e1, hw1, hr1, hs1, ha1⟩ := settle1_ok h (hx 0 c v rfl rfl)
    obtain ⟨e2, hw2, hr2, hs2, ha2⟩ := settles_ok cs vs hs1 (by simpa using hl) (fun i x v hx' hv => (hx (i + 1) x v (by simpa using hx') (by simpa using hv)).mono ha1)
    refine ⟨e2, hw2.trans hw1, fun i x u hxi hui => ?_, hs2, ha1.trans ha2⟩
    cases i with
    | zero =>
      simp [settles] at hxi hui
      subst hxi hui
      exact hr1.mono ha2
    | succ i => exact hr2 i x u (by simpa [settles] using hxi) (by simpa using hui)

theorem settle_ok (h : Sim B e hp) {x : AV} {v : Value} (hx : Rd e x v) :
    ∃ e', e'.w = e.w ∧ Rd e' (settle x hp).1 v ∧ Sim B e' (settle x hp).2 ∧ Adv e e' := by
  cases x with
  | agg cs =>
    cases hx with
    | agg _ vs hn hr =>
      obtain ⟨e', hw, hr', hs, ha⟩ := settles_ok cs vs.toList h (by simpa using hn) (fun i x v hx hv => hr i x v hx (by simpa using hv))
      exact ⟨e', hw, .agg _ _ (by rw [hn, settles_length]) (fun i x v hx hv => hr' i x v hx (by simpa using hv)), hs, ha⟩
  | _ => exact settle1_ok h hx

theorem settle1_one (x : AV) (hp : Hp) : (settle1 x hp).1.one = x.one := by cases x <;> rfl
theorem settles_boxes : ∀ (cs : List AV) (hp : Hp), (settles cs hp).2.boxes = hp.boxes ∧ (settles cs hp).2.loops = hp.loops ∧ (settles cs hp).2.lb = hp.lb ∧ (settles cs hp).2.lt = hp.lt ∧ (settles cs hp).2.ll = hp.ll
  | [], hp => ⟨rfl, rfl, rfl, rfl, rfl⟩
  | x :: xs, hp => by
    have h1 : (settle1 x hp).2.boxes = hp.boxes ∧ (settle1 x hp).2.loops = hp.loops ∧ (settle1 x hp).2.lb = hp.lb ∧ (settle1 x hp).2.lt = hp.lt ∧ (settle1 x hp).2.ll = hp.ll := by cases x <;> exact ⟨rfl, rfl, rfl, rfl, rfl⟩
    have h2 := settles_boxes xs (settle1 x hp).2
    simp only [settles]
    exact ⟨h2.1.trans h1.1, h2.2.1.trans h1.2.1, h2.2.2.1.trans h1.2.2.1, h2.2.2.2.1.trans h1.2.2.2.1, h2.2.2.2.2.trans h1.2.2.2.2⟩
theorem settle_boxes (v : AV) (hp : Hp) : (settle v hp).2.boxes = hp.boxes ∧ (settle v hp).2.loops = hp.loops ∧ (settle v hp).2.lb = hp.lb ∧ (settle v hp).2.lt = hp.lt ∧ (settle v hp).2.ll = hp.ll := by
  cases v <;> first | exact settles_boxes _ _ | exact ⟨rfl, rfl, rfl, rfl, rfl⟩

theorem run_sizeOf {t : TypeId} {n : Nat} (h : sz C t = some n) (w : World) : (sizeOf t).run C.P w = .ok n w := by
  simp only [sz, Option.map_eq_some_iff] at h
  obtain ⟨i, hi, rfl⟩ := h
  simp [sizeOf, typeInfo, hi]
theorem run_zeroValue {t : TypeId} {cs : List AV} (h : zeroCells C t = some cs) : ∃ z, cs = (ofVal z).cells ∧ ∀ w, (zeroValue t).run C.P w = .ok z w := by
  simp only [zeroCells, Option.map_eq_some_iff, Option.bind_eq_some_iff] at h
  obtain ⟨z, ⟨i, hi, hz⟩, rfl⟩ := h
  exact ⟨z, rfl, fun w => by simp [zeroValue, typeInfo, hi, hz]⟩
theorem run_isAgg {t : TypeId} {d : TypeDesc} (h : C.P.underlying t = some d) (w : World) : (isAgg t).run C.P w = .ok (aggT C t) w := by
  simp only [isAgg, Sem.run_bind, run_underlying h, Result.andThen_ok, aggT, h]
  cases d <;> rfl
theorem underlying_of_sz {t : TypeId} {n : Nat} (h : sz C t = some n) (ha : aggT C t = true) : ∃ d, C.P.underlying t = some d := by
  unfold aggT at ha
  cases hu : C.P.underlying t with
  | none => simp [hu] at ha
  | some d => exact ⟨d, rfl⟩

/-- What is read of cells at a type, where each is read. -/
theorem shapeOf_ok {t : TypeId} {cs : List AV} {x : AV} (hx : shapeOf C t cs = some x) (a : Addr) (vf : Nat → Value)
    (hc : ∀ j, j < cs.length → e.w.cell? (a.add j) = some (vf j)) (hr : ∀ (j : Nat) (y : AV), cs[j]? = some y → Rd e y (vf j)) :
    ∃ v, (loadVar t a).run C.P e.w = .ok v e.w ∧ Rd e x v := by
  unfold shapeOf at hx
  split at hx
  case h_2 => cases hx
  rename_i n d hn hu
  split at hx
  case isFalse => cases hx
  rename_i hle
  split at hx
  · rename_i hagg
    cases hx
    refine ⟨.agg ((List.range n).map vf).toArray, ?_, .agg _ _ (by simp [Nat.min_eq_left hle]) (fun i y v hy hv => ?_)⟩
    · simp only [loadVar, Sem.run_bind, run_isAgg hu, Result.andThen_ok, hagg, if_true, run_sizeOf hn, run_loadCells e.w a n vf (fun j hj => hc j (by omega)), Sem.run_pure]
    · have hi : i < n := by
        have := (List.getElem?_eq_some_iff.1 hy).1
        simp at this; omega
      rw [List.getElem?_take_of_lt hi] at hy
      simp [hi] at hv
      subst hv
      exact hr i y hy
  · rename_i hagg
    split at hx
    · rename_i y ys
      cases hx
      refine ⟨vf 0, ?_, hr 0 _ rfl⟩
      have h0 := hc 0 (by simp)
      rw [Addr.add_zero'] at h0
      simp [loadVar, Sem.run_bind, run_isAgg hu, Result.andThen_ok, hagg, h0]
    · cases hx

theorem sz_underlying {t : TypeId} {n : Nat} (h : sz C t = some n) : (∃ d, C.P.underlying t = some d) ∨ C.P.underlying t = none := by
  cases C.P.underlying t with
  | none => exact .inr rfl
  | some d => exact .inl ⟨d, rfl⟩

/-- A load. -/
theorem loadA_ok (h : Sim B e hp) {t : TypeId} {p x : AV} {pv : Value} (hp' : Rd e p pv) (hx : loadA C t p hp = some x) :
    ∃ v, (Instr.loadAt t pv).run C.P e.w = .ok v e.w ∧ Rd e x v := by
  unfold loadA at hx
  cases hp' <;> simp only [reduceCtorEq] at hx
  case box b off k hb =>
    obtain ⟨_, _, cs, vs, te, h3, h4, h5, h6⟩ := h.box b k hb
    rw [h3, Option.bind_some] at hx
    dsimp only at hx
    have hcell : ∀ j, off + j < cs.length → e.w.cell? ((⟨k, off, none⟩ : Addr).add j) = some (vs.getD (off + j) undef) := fun j hj => by
      rw [spot_add]
      simp [World.cell?, h4, Array.getD_eq_getD_getElem?, Array.getElem?_eq_getElem (show off + j < vs.size by omega)]
    obtain ⟨v, hv, hr⟩ := shapeOf_ok (C := C) (e := e) hx ⟨k, off, none⟩ (fun j => vs.getD (off + j) undef) (fun j hj => hcell j (by simp at hj; omega)) (fun j y hy => by
      rw [List.getElem?_drop] at hy
      have hlt := (List.getElem?_eq_some_iff.1 hy).1
      exact h6 (off + j) y _ hy (by simp [Array.getD_eq_getD_getElem?, Array.getElem?_eq_getElem (show off + j < vs.size by omega)]))
    exact ⟨v, by simp [Instr.loadAt, Instr.sureAddr, hv], hr⟩
  case elem cs a vf hc hr =>
    obtain ⟨v, hv, hr⟩ := shapeOf_ok (C := C) (e := e) hx a vf (fun j hj => (hc j hj).2) hr
    exact ⟨v, by simp [Instr.loadAt, Instr.sureAddr, hv], hr⟩

/-- A new variable. -/
theorem newBox_ok (h : Sim B e hp) {cs : List AV} {x : AV} {hp' : Hp} (vs : Array Value) (t : TypeId) (hx : newBox t cs hp = some (x, hp')) (hn : vs.size = cs.length)
    (hr : ∀ (i : Nat) (x : AV) (v : Value), cs[i]? = some x → vs[i]? = some v → Rd e x v) :
    ∃ e', e'.w = e.w.alloc (.cells vs t) ∧ Rd e' x (.pointer (some ⟨e.w.heap.size, 0, none⟩)) ∧ Sim B e' hp' ∧ Adv e e' := by
  unfold newBox at hx
  split at hx
  case isFalse => cases hx
  simp only [Option.some.injEq, Prod.mk.injEq] at hx
  obtain ⟨rfl, rfl⟩ := hx
  obtain ⟨e1, hw1, hr1, hs1, ha1⟩ := settles_ok cs vs.toList h (by simpa using hn) (fun i x v hx hv => hr i x v hx (by simpa using hv))
  obtain ⟨e2, hw2, hb2, hs2, ha2⟩ := step_box hs1 (settles cs hp).1 vs t (by rw [hn, settles_length]) (fun i x v hx hv => hr1 i x v hx (by simpa using hv))
  refine ⟨e2, by rw [hw2, hw1], .box _ _ _ (by rw [hb2, hw1]), hs2, ha1.trans ha2⟩

theorem writeAt_length : ∀ (xs cs : List AV) (i : Nat), (writeAt cs i xs).length = cs.length
  | [], cs, i => rfl
  | x :: xs, cs, i => by simp [writeAt, writeAt_length xs]

/-- Values written into a row's place, from i on. -/
def writeV (vs : Array Value) (i : Nat) : List Value → Array Value
  | [] => vs
  | x :: xs => writeV (vs.setIfInBounds i x) (i + 1) xs
theorem writeV_size : ∀ (xs : List Value) (vs : Array Value) (i : Nat), (writeV vs i xs).size = vs.size
  | [], vs, i => rfl
  | x :: xs, vs, i => by simp [writeV, writeV_size xs]
theorem writeV_out : ∀ (xs : List Value) (vs : Array Value) (i j : Nat), (j < i ∨ i + xs.length ≤ j) → (writeV vs i xs)[j]? = vs[j]?
  | [], vs, i, j, h => rfl
  | x :: xs, vs, i, j, h => by
    simp only [writeV]
    rw [writeV_out xs _ _ _ (by simp at h; omega), Array.getElem?_setIfInBounds_ne (by simp at h; omega)]
theorem writeV_in : ∀ (xs : List Value) (vs : Array Value) (i j : Nat), i + xs.length ≤ vs.size → (x : Value) → xs[j]? = some x → (writeV vs i xs)[i + j]? = some x
  | [], vs, i, j, h, x, hx => by simp at hx
  | y :: ys, vs, i, 0, h, x, hx => by
    simp at hx h
    subst hx
    simp only [writeV, Nat.add_zero]
    rw [writeV_out ys _ _ _ (by omega), Array.getElem?_setIfInBounds_self_of_lt (by omega)]
  | y :: ys, vs, i, j + 1, h, x, hx => by
    simp only [writeV]
    have := writeV_in ys (vs.setIfInBounds i y) (i + 1) j (by simp at h ⊢; omega) x (by simpa using hx)
    rw [← this]; congr 1; omega
theorem writeAt_out : ∀ (xs cs : List AV) (i j : Nat), (j < i ∨ i + xs.length ≤ j) → (writeAt cs i xs)[j]? = cs[j]?
  | [], cs, i, j, h => rfl
  | x :: xs, cs, i, j, h => by
    simp only [writeAt]
    rw [writeAt_out xs _ _ _ (by simp at h; omega), List.getElem?_set_ne (by simp at h; omega)]
theorem writeAt_in : ∀ (xs cs : List AV) (i j : Nat), i + xs.length ≤ cs.length → j < xs.length → (writeAt cs i xs)[i + j]? = xs[j]?
  | [], cs, i, j, h, hj => by simp at hj
  | y :: ys, cs, i, 0, h, hj => by
    simp at h
    simp only [writeAt, Nat.add_zero]
    rw [writeAt_out ys _ _ _ (by omega), List.getElem?_set_self (by omega)]
    rfl
  | y :: ys, cs, i, j + 1, h, hj => by
    simp only [writeAt]
    have := writeAt_in ys (cs.set i y) (i + 1) j (by simp at h ⊢; omega) (by simpa using hj)
    rw [List.getElem?_cons_succ, ← this]; congr 1; omega

theorem setCell_put (w : World) (k : Nat) (vs : Array Value) (t : TypeId) {fz : Nat × Nat} (h : w.heap[k]? = some (.cells vs t fz)) (off : Nat) (v : Value) :
    w.setCell ⟨k, off, none⟩ v = putBlock w k (.cells (vs.setIfInBounds off v) t fz) := by
  unfold World.setCell putBlock
  congr 1
  apply Array.ext_getElem?
  intro i
  rw [Array.getElem?_modify, Array.getElem?_setIfInBounds]
  by_cases hi : k = i
  · subst hi
    obtain ⟨hlt, hk⟩ := Array.getElem?_eq_some_iff.1 h
    simp [hk, hlt]
  · simp [hi]

theorem putBlock_put (w : World) (k : Nat) (o o' : Obj) : putBlock (putBlock w k o) k o' = putBlock w k o' := by
  simp [putBlock]

/-- Cells are stored into a block. -/
theorem run_storeCells {P : Program} (k : Nat) (t : TypeId) (fz : Nat × Nat) (off : Nat) (hfz : fz.2 ≤ off) : ∀ (l : List Value) (i : Nat) (w : World) (vs : Array Value), w.heap[k]? = some (.cells vs t fz) → (∀ u, u ∈ l → u.oneCell' = true) → off + i + l.length ≤ vs.size →
    (storeCells ⟨k, off, none⟩ l i).run P w = .ok () (putBlock w k (.cells (writeV vs (off + i) l) t fz))
  | [], i, w, vs, h, ho, hl => by
    simp only [storeCells, writeV, Sem.run_pure, Result.ok.injEq, true_and]
    have : w.heap.setIfInBounds k (.cells vs t fz) = w.heap := by
      apply Array.ext_getElem?
      intro j
      rw [Array.getElem?_setIfInBounds]
      split
      · subst_vars
        obtain ⟨hlt, hk⟩ := Array.getElem?_eq_some_iff.1 h
        simp [hlt, hk]
      · rfl
    simp [putBlock, this]
  | x :: xs, i, w, vs, h, ho, hl => by
    simp at hl
    have hx : x.oneCell' = true := ho x (by simp)
    have hc : w.cell? ⟨k, off + i, none⟩ = some (vs[off + i]'(by omega)) := by
      simp [World.cell?, h, Array.getElem?_eq_getElem (show off + i < vs.size by omega)]
    have hf : w.frozen? ⟨k, off + i, none⟩ = false := by simp [World.frozen?, h]; omega
    simp only [storeCells, Sem.run_bind, spot_add, run_store P w _ x .plain hx, hc, hf, Bool.false_eq_true, if_false, Result.andThen_ok, setCell_put w k vs t h]
    have h' : (putBlock w k (.cells (vs.setIfInBounds (off + i) x) t fz)).heap[k]? = some (.cells (vs.setIfInBounds (off + i) x) t fz) := putBlock_same _ _ _ (lt_of_heap h)
    rw [run_storeCells k t fz off hfz xs (i + 1) _ _ h' (fun u hu => ho u (by simp [hu])) (by simp; omega), putBlock_put]
    simp only [writeV, Nat.add_assoc]

/-- A store. -/
theorem storeA_ok (h : Sim B e hp) {t : TypeId} {p v : AV} {pv vv : Value} {hp' : Hp} (hp0 : Rd e p pv) (hv : Rd e v vv) (hx : storeA C t p v hp = some hp') :
    ∃ e', (Instr.storeAt t pv vv).run C.P e.w = .ok () e'.w ∧ Sim B e' hp' ∧ Adv e e' := by
  unfold storeA at hx
  split at hx
  case h_2 => cases hx
  rename_i b off n cs bt hn hcs
  cases hp0 with
  | box _ _ k hb =>
  simp only at hx hcs
  split at hx
  case isFalse => cases hx
  rename_i hcond
  obtain ⟨hlen, hfit, hone, _⟩ := hcond
  cases hx
  obtain ⟨e1, hw1, hr1, hs1, ha1⟩ := settle_ok h hv
  obtain ⟨hc1, hc2, hc3⟩ := hr1.cells hone
  have hb1 : e1.β b = some k := ha1.β b k hb
  obtain ⟨_, _, cs', vs, te, h3, h4, h5, h6⟩ := hs1.box b k hb1
  rw [(settle_boxes v hp).1, hcs] at h3
  cases h3
  have hsz : vv.cells.size = n := hc1.trans hlen
  have hrun : (Instr.storeAt t (.pointer (some ⟨k, off, none⟩)) vv).run C.P e.w = .ok () (putBlock e1.w k (.cells (writeV vs off vv.cells.toList) bt (0, 0))) := by
    have := run_storeCells (P := C.P) k bt (0, 0) off (Nat.zero_le _) vv.cells.toList 0 e1.w vs h4 hc3 (by simp [hsz]; omega)
    simp only [Nat.add_zero] at this
    rw [hw1] at this
    rw [hw1]
    simp [Instr.storeAt, Instr.sureAddr, storeVar, run_sizeOf hn, hsz, this]
  obtain ⟨e2, hw2, hs2, ha2⟩ := step_put hs1 b k hb1 (writeAt cs off (settle v hp).1.cells) (writeV vs off vv.cells.toList) bt vs h4 (writeV_size _ _ _) (by rw [writeV_size, writeAt_length, h5]) (fun i x u hxi hui => by
    by_cases hin : i < off ∨ off + n ≤ i
    · rw [writeAt_out _ _ _ _ (by omega)] at hxi
      rw [writeV_out _ _ _ _ (by simp [hsz]; omega)] at hui
      exact h6 i x u hxi hui
    · have hi : i = off + (i - off) := by omega
      rw [hi, writeAt_in _ _ _ _ (by omega) (by omega)] at hxi
      have hlt : i - off < vv.cells.toList.length := by simp [hsz]; omega
      rw [hi, writeV_in _ _ _ _ (by simp [hsz]; omega) _ (List.getElem?_eq_getElem hlt)] at hui
      cases hui
      exact hc2 (i - off) x _ hxi (by simp [Array.getElem?_eq_getElem (show i - off < vv.cells.size by omega)]))
  exact ⟨e2, by rw [hrun, hw2], hs2, ha1.trans ha2⟩

end Go.Proofs.YtkddphdhcejdaaaDoor.AI
