/-
  Each operation of the interpreter's is the model's: slices that are written out.
-/
import Derived.Test.YtkddphdhcejdaaaDoorAiH
set_option linter.unusedVariables false
set_option linter.unusedSimpArgs false
namespace Go.Proofs.YtkddphdhcejdaaaDoor.AI
open Go.RowKit
variable {C : Cfg} {B : Nat} {e : E} {hp : Hp}

/-- A new block that nobody writes. -/
theorem step_ro (h : Sim B e hp) (cells : Array Value) (t : TypeId) :
    ∃ e', e'.w = e.w.alloc (.cells cells t) ∧ (∀ j v, cells[j]? = some v → e'.S ⟨e.w.heap.size, j, none⟩ ∧ e'.w.cell? ⟨e.w.heap.size, j, none⟩ = some v) ∧ Sim B e' hp ∧ Adv e e' := by
  let e' : E := { e with w := e.w.alloc (.cells cells t), S := fun a => e.S a ∨ (a.block = e.w.heap.size ∧ a.spot = none ∧ a.off < cells.size) }
  have hcell : ∀ j v, cells[j]? = some v → e'.w.cell? ⟨e.w.heap.size, j, none⟩ = some v := fun j v hv => by
    show (e.w.alloc (.cells cells t)).cell? _ = _
    rw [World.cell?_alloc_new]; exact hv
  have ha : Adv e e' := ⟨fun a ha => ⟨.inl ha, World.cell?_alloc_lt _ _ _ (h.lt ha)⟩, fun _ _ h => h, fun _ _ h => h, fun t tk h => ⟨tk, h, Nat.le_refl _, fun _ => rfl, fun _ => rfl⟩, fun _ _ h => .inl h, fun _ _ h => .inl h,
    fun t tk' g h hg => .inl ⟨tk', h, hg⟩, by simp [e'], fun r hr _ _ _ => heap_alloc_lt _ _ hr, fun a hS => hS.elim .inl (fun hh => .inr (.inl (by omega))), fun _ _ h => .inl h, fun _ tk h => .inl ⟨tk, h⟩, fun _ _ h => .inl h, rfl, rfl, rfl, rfl, rfl, rfl, fun k r h => ⟨r, (heap_alloc_lt _ _ (lt_of_heap h)).trans h⟩, fun k vs t z h => ⟨vs, z, (heap_alloc_lt _ _ (lt_of_heap h)).trans h, rfl⟩⟩
  refine ⟨e', rfl, fun j v hv => ⟨.inr ⟨rfl, rfl, (Array.getElem?_eq_some_iff.1 hv).1⟩, hcell j v hv⟩, ?_, ha⟩
  refine ⟨by have := h.base; simp [e']; omega, h.lk, ?_, ?_, h.inj, ?_, h.tinj, ?_, h.linj⟩
  · rintro a (hS | ⟨h1, h2, h3⟩)
    · show ((e.w.alloc _).cell? a).isSome = true
      rw [World.cell?_alloc_lt _ _ _ (h.lt hS)]; exact h.Sok a hS
    · have : a = ⟨e.w.heap.size, a.off, none⟩ := by cases a; simp_all
      rw [this, hcell a.off _ (Array.getElem?_eq_getElem h3)]; rfl
  · intro b k' hb
    obtain ⟨h1, h2, cs, vs, t', h3, h4, h5, h6⟩ := h.box b k' hb
    have hlt := (h.β_lt hb).2
    exact ⟨h1, fun a hS => hS.elim (h2 a) (fun hh => by omega), cs, vs, t', h3, (heap_alloc_lt _ _ hlt).trans h4, h5, fun i x v hx hv => (h6 i x v hx hv).mono ha⟩
  · intro t' tk' htk
    obtain ⟨h1, h2⟩ := h.tok t' tk' htk
    refine ⟨h1, h2.mono (fun a hS => ?_) (fun g hg => heap_alloc_lt _ _ (h2.lt hg)) (fun _ _ _ h => h)⟩
    rcases hS with hS | ⟨h3, _⟩
    · exact .inl hS
    · exact .inr fun g hg => by have := h2.lt hg; omega
  · intro l k' hl
    obtain ⟨h1, r, f, tmps, df, h2, h3, h4⟩ := h.loop l k' hl
    exact ⟨h1, r, f, tmps, df, h2, (heap_alloc_lt _ _ (lt_of_heap h3)).trans h3, fun hi => (h4 hi).mono ha⟩

theorem rep_get (z : List AV) (s : Nat) (hz : z.length = s) : ∀ (n i : Nat), i < n * s → ((List.replicate n z).flatten)[i]? = z[i % s]?
  | 0, i, h => by simp at h
  | n + 1, i, h => by
    simp only [List.replicate_succ, List.flatten_cons]
    by_cases hi : i < s
    · rw [List.getElem?_append_left (by omega), Nat.mod_eq_of_lt hi]
    · rw [List.getElem?_append_right (by omega), hz, rep_get z s hz n (i - s) (by rw [Nat.succ_mul] at h; omega)]
      congr 1
      conv => rhs; rw [show i = i - s + s by omega, Nat.add_mod_right]
theorem rep_length (z : List AV) (s : Nat) (hz : z.length = s) (n : Nat) : ((List.replicate n z).flatten).length = n * s := by
  simp [hz]

theorem zeros_rd (e : E) (z : Value) (n s : Nat) (hz : (ofVal z).cells.length = s) (hs : 0 < s) :
    CellsRd e ((List.replicate n (ofVal z).cells).flatten) ((Array.range (n * s)).map fun i => z.cells[i % z.cells.size]!).toList := by
  obtain ⟨h1, h2⟩ := ofVal_cells e z
  have hsz : z.cells.size = s := by simp at h1; omega
  refine ⟨by rw [rep_length _ s hz]; simp, fun i x v hx hv => ?_⟩
  have hi : i < n * s := by
    have := (List.getElem?_eq_some_iff.1 hx).1
    rw [rep_length _ s hz] at this; exact this
  rw [rep_get _ s hz n i hi] at hx
  have hm : i % s < z.cells.size := by rw [hsz]; exact Nat.mod_lt _ hs
  simp [Array.getElem?_eq_getElem, hi, hsz] at hv
  refine h2 (i % s) x v hx ?_
  rw [← hv]
  simp [Array.getElem?_eq_getElem hm, Array.getElem!_eq_getD, Array.getD_eq_getD_getElem?]

theorem chop_ok (agg : Bool) (s : Nat) : ∀ (n : Nat) (cs xs : List AV), cs.length = n * s → cs.all (·.one) = true → (chop s n cs).mapM (asElem agg) = some xs →
    xs.length = n ∧ xs.flatMap AV.cells = cs ∧ ∀ x, x ∈ xs → x.cells.length = s
  | 0, cs, xs, hl, ho, hx => by
    simp [chop] at hx
    subst hx
    simp at hl
    subst hl
    simp
  | n + 1, cs, xs, hl, ho, hx => by
    simp only [chop, List.mapM_cons, Option.bind_eq_bind, Option.bind_eq_some_iff, Option.pure_def, Option.some.injEq] at hx
    obtain ⟨y, hy, ys, hys, rfl⟩ := hx
    have hls : s ≤ cs.length := by rw [hl, Nat.succ_mul]; omega
    obtain ⟨h1, h2, h3⟩ := chop_ok agg s n (cs.drop s) ys (by simp [hl, Nat.succ_mul]) (by
      rw [List.all_eq_true] at ho ⊢
      exact fun x hx => ho x (List.mem_of_mem_drop hx)) hys
    have hyc : y.cells = cs.take s := by
      unfold asElem at hy
      split at hy
      · cases hy; rfl
      · split at hy
        · rename_i x hx
          cases hy
          have hx1 : y.one = true := by
            rw [List.all_eq_true] at ho
            exact ho y (List.mem_of_mem_take (i := s) (by rw [hx]; simp))
          rw [hx]
          cases y <;> first | rfl | (simp [AV.one] at hx1)
        · cases hy
    refine ⟨by simp [h1], by simp [hyc, h2], fun x hx => ?_⟩
    simp only [List.mem_cons] at hx
    rcases hx with rfl | hx
    · rw [hyc]; simp [Nat.min_eq_left hls]
    · exact h3 x hx

theorem toDatas_append : ∀ (xs ys xs' ys' : List AV), AV.toDatas xs = some xs' → AV.toDatas ys = some ys' → AV.toDatas (xs ++ ys) = some (xs' ++ ys')
  | [], ys, xs', ys', h, h' => by cases h; exact h'
  | x :: xs, ys, xs', ys', h, h' => by
    simp only [AV.toDatas] at h
    split at h
    case h_2 => cases h
    rename_i y zs hy hzs
    cases h
    simp only [List.cons_append, AV.toDatas, hy, toDatas_append xs ys zs ys' hzs h']
theorem toCells_toDatas : ∀ (xs ys : List AV), AV.toCells xs = some ys → AV.toDatas xs = some ys
  | [], ys, h => h
  | x :: xs, ys, h => by
    simp only [AV.toCells] at h
    split at h
    case h_2 => cases h
    rename_i y ys' ho hy hys
    cases h
    simp only [AV.toDatas, hy, toCells_toDatas xs ys' hys]
theorem toData_cells (x y : AV) (h : x.toData = some y) : AV.toDatas x.cells = some y.cells := by
  cases x with
  | agg cs =>
    simp only [AV.toData, Option.map_eq_some_iff] at h
    obtain ⟨ys, hys, rfl⟩ := h
    exact toCells_toDatas cs ys hys
  | _ => first | (cases h; rfl) | (cases h)
theorem toDatas_cells : ∀ (xs ys : List AV), AV.toDatas xs = some ys → AV.toDatas (xs.flatMap AV.cells) = some (ys.flatMap AV.cells)
  | [], ys, h => by cases h; rfl
  | x :: xs, ys, h => by
    simp only [AV.toDatas] at h
    split at h
    case h_2 => cases h
    rename_i y zs hy hzs
    cases h
    simp only [List.flatMap_cons]
    exact toDatas_append _ _ _ _ (toData_cells x y hy) (toDatas_cells xs zs hzs)
theorem toDatas_lengths : ∀ (xs ys : List AV) (k : Nat), AV.toDatas xs = some ys → (∀ x, x ∈ xs → x.cells.length = k) → (∀ y, y ∈ ys → y.cells.length = k ∧ y.isData = true)
  | [], ys, k, h, hk => by cases h; simp
  | x :: xs, ys, k, h, hk => by
    simp only [AV.toDatas] at h
    split at h
    case h_2 => cases h
    rename_i y zs hy hzs
    cases h
    intro u hu
    simp only [List.mem_cons] at hu
    rcases hu with rfl | hu
    · have h1 := toData_data x u hy
      exact ⟨h1.2.2.trans (hk x (by simp)), h1.1⟩
    · exact toDatas_lengths xs zs k hzs (fun x hx => hk x (by simp [hx])) u hu

theorem CellsRd.toData {xs ys : List AV} {vs : List Value} (h : CellsRd e (xs.flatMap AV.cells) vs) (hy : AV.toDatas xs = some ys) : CellsRd e (ys.flatMap AV.cells) vs := by
  have hc := toDatas_cells xs ys hy
  have h1 := (toDatas_data _ _ hc).1
  have h3 := toDatas_ok (e := e) _ _ hc
  refine ⟨h.1.trans h1.symm, fun i y v hyi hv => ?_⟩
  have hi : i < (xs.flatMap AV.cells).length := by rw [← h1]; exact (List.getElem?_eq_some_iff.1 hyi).1
  exact h3 i _ y v (List.getElem?_eq_getElem hi) hyi (h.2 i _ v (List.getElem?_eq_getElem hi) hv)

theorem mul_lt_of {i j k n : Nat} (hi : i < n) (hj : j < k) : i * k + j < n * k := by
  calc i * k + j < i * k + k := by omega
    _ = (i + 1) * k := by rw [Nat.succ_mul]
    _ ≤ n * k := Nat.mul_le_mul_right k hi

/-- A new row of elements. -/
theorem newRowA_ok (h : Sim B e hp) (xs : List AV) (cells : Array Value) (t : TypeId) (k : Nat) (hk0 : 0 < k) (hk : ∀ x, x ∈ xs → x.cells.length = k) (hr : CellsRd e (xs.flatMap AV.cells) cells.toList) :
    ∃ e', e'.w = e.w.alloc (.cells cells t) ∧ Rd e' (newRowA t xs hp).1 (.slice (some ⟨e.w.heap.size, 0, none⟩) xs.length xs.length) ∧ Sim B e' (newRowA t xs hp).2 ∧ Adv e e' := by
  have hsz : cells.size = xs.length * k := by
    have := hr.1
    rw [flat_length xs k hk] at this
    simpa using this
  unfold newRowA
  split
  · rename_i ys hys
    have hlen := (toDatas_data xs ys hys).1
    have hlk := toDatas_lengths xs ys k hys hk
    by_cases h0 : xs.length = 0
    · obtain rfl : xs = [] := List.eq_nil_of_length_eq_zero h0
      cases hys
      obtain ⟨e2, hw2, hr2, hs2, ha2⟩ := step_empty (sim_alloc h (.cells cells t)) (some ⟨e.w.heap.size, 0, none⟩) (some t) (fun h => by cases h)
      exact ⟨e2, hw2, hr2, hs2, (adv_alloc h _).trans ha2⟩
    · have hr' := hr.toData hys
      obtain ⟨e2, hw2, hr2, hs2, ha2⟩ := step_row_new h ys cells t k ys.length (by omega) hk0 (Nat.le_refl _) (by rw [hsz, hlen]) (fun x hx => (hlk x hx).1) (fun x hx => (hlk x hx).2) (fun i x v hx hv => hr'.2 i x v hx (by simpa using hv))
      rw [hlen] at hr2
      exact ⟨e2, hw2, hr2, by simpa [hlen] using hs2, ha2⟩
  · obtain ⟨e2, hw2, hr2, hs2, ha2⟩ := step_ro h cells t
    refine ⟨e2, hw2, ?_, hs2, ha2⟩
    refine .lits xs _ _ k (fun i j => cells.getD (i * k + j) undef) (Nat.le_refl _) hk (fun _ => rfl) (fun a i j hA hi hj => ?_) (fun i j x y hx hy => ?_)
    · cases hA
      have hlt : i * k + j < cells.size := by rw [hsz]; exact mul_lt_of hi hj
      rw [spot_add]
      simp only [Nat.zero_add]
      have := hr2 (i * k + j) _ (Array.getElem?_eq_getElem hlt)
      refine ⟨this.1, ?_⟩
      rw [this.2]
      simp [Array.getD_eq_getD_getElem?, Array.getElem?_eq_getElem hlt]
    · have hj : j < k := by
        have := (List.getElem?_eq_some_iff.1 hy).1
        have := hk x (List.mem_of_getElem? hx)
        omega
      have hlt : i * k + j < cells.size := by rw [hsz]; exact mul_lt_of (List.getElem?_eq_some_iff.1 hx).1 hj
      refine (hr.2 (i * k + j) y _ ((flat_get xs k hk i j x hx hj).trans hy) ?_).mono ha2
      simp [Array.getD_eq_getD_getElem?, Array.getElem?_eq_getElem hlt]

/-- A slice that is written out. -/
theorem buildSliceA_ok (h : Sim B e hp) {t : TypeId} {n : Nat} {ps : List (Nat × AV)} {qs : Array (Nat × Value)} {x : AV} {hp' : Hp} (hp0 : PartsRd e ps qs.toList) (hx : buildSliceA C t n ps hp = some (x, hp')) :
    ∃ e' v, (Instr.buildSlice t n qs).run C.P e.w = .ok v e'.w ∧ Rd e' x v ∧ Sim B e' hp' ∧ Adv e e' := by
  unfold buildSliceA at hx
  split at hx
  case h_2 => cases hx
  rename_i elem hu
  split at hx
  case h_2 => cases hx
  rename_i s zero hs hz
  split at hx
  case isFalse => cases hx
  rename_i hcond
  obtain ⟨hzl, hs0, hlim⟩ := hcond
  split at hx
  case h_2 => cases hx
  rename_i cells hf
  split at hx
  case isFalse => cases hx
  rename_i hone
  simp only [Option.map_eq_some_iff] at hx
  obtain ⟨xs, hxs, hx⟩ := hx
  obtain ⟨z, rfl, hzr⟩ := run_zeroValue hz
  obtain ⟨vs', hf', hr', hlen'⟩ := fillA_ok ps qs.toList _ ((Array.range (n * s)).map fun i => z.cells[i % z.cells.size]!) cells hp0 (zeros_rd e z n s hzl hs0) hf
  rw [rep_length _ s hzl] at hlen'
  obtain ⟨h1, h2, h3⟩ := chop_ok _ s n cells xs hlen' hone hxs
  obtain ⟨e2, hw2, hr2, hs2, ha2⟩ := newRowA_ok h xs vs' elem s hs0 h3 (by rw [h2]; exact hr')
  rw [hx, h1] at hr2
  rw [hx] at hs2
  refine ⟨e2, _, ?_, hr2, hs2, ha2⟩
  rw [hw2]
  have hl' : ¬ (2 ^ 24 < n * s) := by simp; omega
  simp only [Instr.buildSlice, Sem.run_bind, run_underlying hu, Result.andThen_ok, run_sizeOf hs]
  by_cases h0 : n * s = 0
  · have e0 : ∀ f : Nat → Value, (Array.range 0).map f = #[] := fun f => by simp
    rw [h0, e0] at hf'
    have hl0 : ¬ (2 ^ 24 < 0) := by simp
    simp only [h0, gt_iff_lt, hl0, if_false, if_true, Sem.run_ite, Sem.run_bind, Sem.run_pure, Result.andThen_ok]
    rw [e0, hf']
    simp [newRow]
  · simp only [gt_iff_lt, hl', if_false, h0, Sem.run_ite, Sem.run_bind, hzr, Result.andThen_ok, Sem.run_pure]
    rw [show (fun x => z.cells[x % z.cells.size]!) = fun i => z.cells[i % z.cells.size]! from rfl, hf']
    simp [newRow]

end Go.Proofs.YtkddphdhcejdaaaDoor.AI
