/-
  Each operation of the interpreter's is the model's: append.
-/
import Derived.Test.YtkddphdhcejdaaaDoorAiI
import Derived.Laws.Append
set_option linter.unusedVariables false
set_option linter.unusedSimpArgs false
namespace Go.Proofs.YtkddphdhcejdaaaDoor.AI
open Go.RowKit
variable {C : Cfg} {B : Nat} {e : E} {hp : Hp}

section run
variable {P : Program} {st xt elem : TypeId} {d : TypeDesc} {k b n m cap : Nat} {i : TypeInfo} {z : Value} {base : Option Addr} {xv : Value} {src : Array Value}

theorem run_append_in (hst : P.underlying st = some (.slice elem)) (hxt : P.underlying xt = some d) (hd : ∀ q, d ≠ .int q) (hi : P.info? elem = some i) (w : World)
    (hn : (Builtin.lenOf xv).run P w = .ok n w) (hsrc : (Builtin.firstCells i.size n xv).run P w = .ok src w) (hfit : m + n ≤ cap) (ty : TypeId) :
    (Builtin.append_ #[st, xt] ty #[.slice base m cap, xv]).run P w =
      match base with
      | none => .ok (.slice none (m + n) cap) w
      | some a => ((storeCells (a.add (m * i.size)) src.toList).run P w).andThen fun _ w => .ok (.slice (some a) (m + n) cap) w := by
  have hz : (match d with | .int _ => true | _ => false) = false := by cases d <;> first | rfl | exact absurd rfl (hd _)
  have hs : ∀ w, (sizeOf elem).run P w = .ok i.size w := fun w => by simp [sizeOf, typeInfo, hi]
  cases base with
  | none => simp [Builtin.append_, run_underlying hst, run_underlying hxt, hs, hz, hn, hfit, hsrc]
  | some a => simp [Builtin.append_, run_underlying hst, run_underlying hxt, hs, hz, hn, hfit, hsrc]

theorem run_append_new (hst : P.underlying st = some (.slice elem)) (hxt : P.underlying xt = some d) (hd : ∀ q, d ≠ .int q) (hi : P.info? elem = some i) (hz : i.zero = some z) (w : World)
    (hn : (Builtin.lenOf xv).run P w = .ok n w) (hfit : ¬ m + n ≤ cap) (hb0 : 0 < i.bytes) (hb : (m + n) * i.bytes ≤ 140737488355328) {old : Array Value}
    (hold : (Builtin.firstCells i.size m (.slice base m cap)).run P w.drew = .ok old w.drew) (hsrc : (Builtin.firstCells i.size n xv).run P w.drew = .ok src w.drew) (ty : TypeId) :
    ∃ c rest, m + n ≤ c ∧ rest.size = (c - (m + n)) * z.cells.size ∧
      (Builtin.append_ #[st, xt] ty #[.slice base m cap, xv]).run P w = .ok (.slice (some ⟨w.heap.size, 0, none⟩) (m + n) c) (w.drew.alloc (.cells (old ++ src ++ rest) elem)) := by
  have hdz : (match d with | .int _ => true | _ => false) = false := by cases d <;> first | rfl | exact absurd rfl (hd _)
  have hs : ∀ w, (sizeOf elem).run P w = .ok i.size w := fun w => by simp [sizeOf, typeInfo, hi]
  have hty : ∀ w, (typeInfo elem).run P w = .ok i w := fun w => by simp [typeInfo, hi]
  have hzv : ∀ w, (zeroValue elem).run P w = .ok z w := fun w => by simp [zeroValue, typeInfo, hi, hz]
  have hg := growslice_fits (need := m + n) (old := cap) (bytes := i.bytes) (by omega) hb
  have hb1 : i.bytes ≠ 0 := by omega
  have hg' : ¬ (281474976710656 < Builtin.nextslicecap (m + n) cap * i.bytes) := by omega
  refine ⟨(Question.appendCap (m + n) cap elem).cut (w.tape w.drawn (.appendCap (m + n) cap elem)), Builtin.zeroCells z.cells ((Question.appendCap (m + n) cap elem).cut (w.tape w.drawn (.appendCap (m + n) cap elem)) - (m + n)), ?_, ?_, ?_⟩
  · simp only [Question.cut]; omega
  · simp [Builtin.zeroCells]
  · have hf : (Question.appendCap (m + n) cap elem).forced = false := rfl
    simp [Builtin.append_, run_underlying hst, run_underlying hxt, hs, hdz, hn, hfit, hty, hb1, hg', hf, hold, hsrc, hzv, newRow]

end run

/-- A row's cells. -/
theorem row_cells {xs : List AV} {v : Value} {A : Option Addr} {cap k k' : Nat} {vf : Nat → Nat → Value} (hrow : Row e xs v A cap k' vf) (hk : ∀ x, x ∈ xs → x.cells.length = k) (hk0 : 0 < k) {P : Program} :
    ∃ cells : Array Value, (∀ w, (Builtin.lenOf v).run P w = .ok xs.length w) ∧ (∀ w, (∀ a, w.cell? a = e.w.cell? a) → (Builtin.firstCells k xs.length v).run P w = .ok cells w) ∧ CellsRd e (xs.flatMap AV.cells) cells.toList := by
  obtain ⟨hv, _, hk', hA, hc, hr⟩ := hrow
  subst hv
  by_cases h0 : xs.length = 0
  · obtain rfl : xs = [] := List.eq_nil_of_length_eq_zero h0
    refine ⟨#[], fun w => rfl, fun w _ => ?_, rfl, fun i x v hx => by simp at hx⟩
    cases A with
    | none => rfl
    | some a => simp [Builtin.firstCells, loadCells, loadCellsFrom]
  · obtain rfl : k' = k := by
      obtain ⟨y, hy'⟩ : ∃ y, y ∈ xs := by
        cases xs with
        | nil => simp at h0
        | cons y ys => exact ⟨y, by simp⟩
      rw [← hk y hy', ← hk' y hy']
    obtain ⟨a, rfl⟩ := Option.isSome_iff_exists.1 (hA (by intro hh; simp [hh] at h0))
    have hcell : ∀ j, j < xs.length * k' → e.w.cell? (a.add j) = some (vf (j / k') (j % k')) := fun j hj => by
      have h1 : j / k' < xs.length := Nat.div_lt_of_lt_mul (by rw [Nat.mul_comm]; exact hj)
      have h2 := (hc a (j / k') (j % k') rfl h1 (Nat.mod_lt _ hk0)).2
      have h3 : j / k' * k' + j % k' = j := by have := Nat.div_add_mod j k'; rw [Nat.mul_comm]; exact this
      rwa [h3] at h2
    refine ⟨((List.range (xs.length * k')).map fun j => vf (j / k') (j % k')).toArray, fun w => by simp [Builtin.lenOf], fun w hw => ?_, by simp [flat_length xs k' hk'], fun i x v hx hv => ?_⟩
    · simp only [Builtin.firstCells]
      exact run_loadCells w a (xs.length * k') (fun j => vf (j / k') (j % k')) (fun j hj => by rw [hw]; exact hcell j hj)
    · have hi : i < xs.length * k' := by
        have := (List.getElem?_eq_some_iff.1 hx).1
        rwa [flat_length xs k' hk'] at this
      have h1 : i / k' < xs.length := Nat.div_lt_of_lt_mul (by rw [Nat.mul_comm]; exact hi)
      have h3 : i / k' * k' + i % k' = i := by have := Nat.div_add_mod i k'; rw [Nat.mul_comm]; exact this
      have hf := flat_get xs k' hk' (i / k') (i % k') _ (List.getElem?_eq_getElem h1) (Nat.mod_lt _ hk0)
      rw [h3, hx] at hf
      simp [hi] at hv
      subst hv
      exact hr (i / k') (i % k') _ x (List.getElem?_eq_getElem h1) hf.symm

/-- The elements that are appended. -/
theorem src_list {x : AV} {v : Value} {xs ys : List AV} {k : Nat} (hx : Rd e x v) (he : x.elems = some xs) (hy : AV.toDatas xs = some ys) (hk : ∀ y, y ∈ ys → y.cells.length = k) (hk0 : 0 < k) {P : Program} :
    ∃ cells : Array Value, (∀ w, (Builtin.lenOf v).run P w = .ok ys.length w) ∧ (∀ w, (∀ a, w.cell? a = e.w.cell? a) → (Builtin.firstCells k ys.length v).run P w = .ok cells w) ∧ CellsRd e (ys.flatMap AV.cells) cells.toList := by
  obtain ⟨A, cap, k', vf, hrow⟩ := hx.row he
  have hlen := (toDatas_data xs ys hy).1
  have hlk := toDatas_lengths xs ys k' hy hrow.hk
  have hk2 : ∀ x, x ∈ xs → x.cells.length = k := fun x hx => by
    rw [hrow.hk x hx]
    obtain ⟨y, hy'⟩ : ∃ y, y ∈ ys := by
      cases ys with
      | nil => simp at hlen; simp [List.eq_nil_of_length_eq_zero hlen.symm] at hx
      | cons y ys => exact ⟨y, by simp⟩
    rw [← hk y hy', ← (hlk y hy').1]
  obtain ⟨cells, h1, h2, h3⟩ := row_cells hrow hk2 hk0 (P := P)
  exact ⟨cells, fun w => by rw [hlen]; exact h1 w, fun w hw => by rw [hlen]; exact h2 w hw, h3.toData hy⟩

theorem src_str (s : ByteArray) {P : Program} :
    ∃ cells : Array Value, (∀ w, (Builtin.lenOf (.string s)).run P w = .ok s.size w) ∧ (∀ w, (Builtin.firstCells 1 s.size (.string s)).run P w = .ok cells w) ∧
      CellsRd e ((s.data.toList.map fun c => AV.int .u8 c.toNat).flatMap AV.cells) cells.toList := by
  refine ⟨(s.extract 0 s.size).data.map fun b => .int .u8 b.toNat, fun w => rfl, fun w => rfl, ?_⟩
  have hx : (s.extract 0 s.size) = s := by simp
  rw [hx]
  have hf : ∀ l : List UInt8, (l.map fun c => AV.int .u8 c.toNat).flatMap AV.cells = l.map fun c => AV.int .u8 c.toNat := fun l => by
    induction l with
    | nil => rfl
    | cons c l ih => simp [AV.cells] at ih ⊢; exact ih
  rw [hf]
  refine ⟨by simp, fun i x v hx hv => ?_⟩
  simp [List.getElem?_map] at hx hv
  obtain ⟨c, hc, rfl⟩ := hx
  obtain ⟨c', hc', rfl⟩ := hv
  rw [hc] at hc'
  cases hc'
  exact .int _ _

theorem CellsRd.append {xs ys : List AV} {us vs : List Value} (h : CellsRd e xs us) (h' : CellsRd e ys vs) : CellsRd e (xs ++ ys) (us ++ vs) := by
  have hl := h.1
  refine ⟨by simp [hl, h'.1], fun i x v hx hv => ?_⟩
  by_cases hi : i < xs.length
  · rw [List.getElem?_append_left hi] at hx
    rw [List.getElem?_append_left (by omega)] at hv
    exact h.2 i x v hx hv
  · rw [List.getElem?_append_right (by omega)] at hx
    rw [List.getElem?_append_right (by omega)] at hv
    rw [hl] at hv
    exact h'.2 _ x v hx hv

theorem CellsRd.frontA {xs : List AV} {us vs : Array Value} (h : CellsRd e xs us.toList) : ∀ (i : Nat) (x : AV) (v : Value), xs[i]? = some x → (us ++ vs)[i]? = some v → Rd e x v := fun i x v hx hv => by
  have hi : i < us.size := by have := h.1; simp at this; rw [this]; exact (List.getElem?_eq_some_iff.1 hx).1
  rw [Array.getElem?_append_left hi] at hv
  exact h.2 i x v hx (by simpa using hv)
theorem CellsRd.front {xs : List AV} {us vs : List Value} (h : CellsRd e xs us) : ∀ (i : Nat) (x : AV) (v : Value), xs[i]? = some x → (us ++ vs)[i]? = some v → Rd e x v := fun i x v hx hv => by
  have hi : i < us.length := by rw [h.1]; exact (List.getElem?_eq_some_iff.1 hx).1
  rw [List.getElem?_append_left hi] at hv
  exact h.2 i x v hx hv

/-- An append. -/
theorem appendA_ok (h : Sim B e hp) {ats : Array TypeId} {s x r : AV} {sv xv : Value} {hp' : Hp} (hs : Rd e s sv) (hx0 : Rd e x xv) (hx : appendA C ats s x hp = some (r, hp')) (ty : TypeId) :
    ∃ e' v, (Builtin.append_ ats ty #[sv, xv]).run C.P e.w = .ok v e'.w ∧ Rd e' r v ∧ Sim B e' hp' ∧ Adv e e' := by
  unfold appendA at hx
  split at hx
  case h_2 => cases hx
  rename_i st xt hst0
  obtain rfl : ats = #[st, xt] := by cases ats; simpa using hst0
  split at hx
  case h_2 => cases hx
  rename_i elem d hst hxt
  split at hx
  case h_2 => cases hx
  rename_i k b zero hsz hb hz
  simp only [sz, Option.map_eq_some_iff] at hsz
  obtain ⟨i, hi, hik⟩ := hsz
  simp only [bytesOf, hi, Option.map_some, Option.some.injEq] at hb
  subst hb
  simp only [zeroCells, hi, Option.bind_some, Option.map_eq_some_iff] at hz
  obtain ⟨z, hiz, rfl⟩ := hz
  dsimp only at hx
  split at hx
  case h_2 => cases hx
  rename_i ys hsrc
  split at hx
  case isFalse => cases hx
  rename_i hcond
  obtain ⟨hall, hzl⟩ := hcond
  have hky : ∀ y, y ∈ ys → y.cells.length = k + 1 := fun y hy => by
    have := List.all_eq_true.1 hall y hy
    simpa using this
  have hzc : z.cells.size = k + 1 := by have := (ofVal_cells e z).1; simp at this; omega
  obtain ⟨src, hlen, hfirst, hrd, hyd, hdint⟩ : ∃ src : Array Value, (∀ w, (Builtin.lenOf xv).run C.P w = .ok ys.length w) ∧ (∀ w, (∀ a, w.cell? a = e.w.cell? a) → (Builtin.firstCells (k + 1) ys.length xv).run C.P w = .ok src w) ∧
      CellsRd e (ys.flatMap AV.cells) src.toList ∧ (∀ y, y ∈ ys → y.isData = true) ∧ ∀ q, d ≠ .int q := by
    split at hsrc
    · simp only [Option.bind_eq_some_iff] at hsrc
      obtain ⟨xs, hxs, hys⟩ := hsrc
      obtain ⟨src, h1, h2, h3⟩ := src_list hx0 hxs hys hky (Nat.succ_pos k) (P := C.P)
      obtain ⟨A, cap, k', vf, hrow⟩ := hx0.row hxs
      exact ⟨src, h1, h2, h3, fun y hy => (toDatas_lengths xs ys k' hys hrow.hk y hy).2, fun q => by simp⟩
    · split at hsrc
      case isFalse => cases hsrc
      rename_i bs hk0
      subst hk0
      cases hx0
      cases hsrc
      obtain ⟨src, h1, h2, h3⟩ := src_str (e := e) bs (P := C.P)
      have hl : (bs.data.toList.map fun c => AV.int .u8 c.toNat).length = bs.size := by simp
      exact ⟨src, fun w => by rw [hl]; exact h1 w, fun w _ => by rw [hl]; exact h2 w, h3, fun y hy => by
        simp only [List.mem_map] at hy
        obtain ⟨c, _, rfl⟩ := hy
        rfl, fun q => by simp⟩
    · cases hsrc
  have hyl := flat_length ys (k + 1) hky
  have hsrcl : src.size = ys.length * (k + 1) := by have := hrd.1; simp [hyl] at this; exact this
  have hdrew : ∀ a, e.w.drew.cell? a = e.w.cell? a := fun a => rfl
  split at hx
  · -- the nil slice
    cases hs
    split at hx
    case isFalse => cases hx
    rename_i hb
    simp only [Option.some.injEq] at hx
    by_cases h0 : ys.length = 0
    · obtain rfl : ys = [] := List.eq_nil_of_length_eq_zero h0
      cases hx
      obtain ⟨e', hw, hr, hsim, ha⟩ := step_nil h
      refine ⟨e', .slice none 0 0, ?_, by simpa using hr, by simpa using hsim, ha⟩
      rw [run_append_in (m := 0) (cap := 0) (n := 0) hst hxt hdint hi e.w (hlen _) (by rw [hik]; exact hfirst e.w (fun _ => rfl)) (Nat.le_refl _) ty, hw]
    · obtain ⟨c, rest, hc, hrest, hrun⟩ := run_append_new (m := 0) (cap := 0) (base := none) (n := ys.length) hst hxt hdint hi hiz e.w (hlen _) (by omega) hb.2 (by simpa using hb.1) (old := #[]) rfl (by rw [hik]; exact hfirst _ hdrew) ty
      obtain ⟨e', hw, hr, hsim, ha⟩ := step_row_new (sim_heap h e.w.drew rfl rfl rfl rfl) ys (#[] ++ src ++ rest) elem (k + 1) c (by omega) (by omega) (by omega)
        (by simp [hsrcl, hrest, hzc]; rw [← Nat.add_mul]; congr 1; omega) hky hyd (fun i x v hx hv => ((hrd.mono (adv_heap e.w.drew rfl rfl rfl rfl)).frontA (vs := rest) i x v hx (by simpa using hv)))
      have hne : ys.isEmpty = false := by cases ys; simp at h0; rfl
      rw [hne] at hx
      cases hx
      refine ⟨e', _, ?_, hr, hsim, (adv_heap e.w.drew rfl rfl rfl rfl).trans ha⟩
      rw [hrun, hw]
      simp
  · -- behind a token
    rename_i t xs
    split at hx
    case h_2 => cases hx
    rename_i n0 el0 htok
    split at hx
    case isFalse => cases hx
    rename_i hcond
    obtain ⟨_, rfl, hel0, hb, hb0, hxall⟩ := hcond
    simp only [Option.some.injEq, Prod.mk.injEq] at hx
    obtain ⟨rfl, rfl⟩ := hx
    cases hs with
    | own _ _ _ tk hl ht hle hkx hv =>
    obtain ⟨htk, hok⟩ := h.tok t tk ht
    rw [htok] at htk
    obtain ⟨hm, helk⟩ : xs.length = tk.m ∧ el0 = tk.el := by simpa using htk
    obtain rfl := hv hm
    have hkx1 : ∀ x, x ∈ xs → x.cells.length = k + 1 := fun x hx => by
      have := List.all_eq_true.1 hxall x hx
      simpa using this
    by_cases h0 : ys.length = 0
    · -- nothing is appended
      obtain rfl : ys = [] := List.eq_nil_of_length_eq_zero h0
      have hr0 : Rd e (.own t xs) tk.v := .own t xs _ tk hl ht hle hkx (fun _ => rfl)
      have hs0 : src = #[] := Array.eq_empty_of_size_eq_zero (by simpa using hsrcl)
      refine ⟨e, tk.v, ?_, by simpa using hr0, by simpa using h, .refl e⟩
      rcases hok with ⟨hm0, A, hv0, _⟩ | ⟨hmp, hk0, g, cap, cur, el, fz, hv0, _, _, _, hcap, _⟩
      · rw [hv0, run_append_in (m := 0) (cap := 0) (n := 0) hst hxt hdint hi e.w (hlen _) (by rw [hik]; exact hfirst e.w (fun _ => rfl)) (Nat.le_refl _) ty]
        cases A with
        | none => rfl
        | some a => simp [hs0, storeCells]
      · rw [hv0, run_append_in (m := tk.m) (cap := cap) (n := 0) hst hxt hdint hi e.w (hlen _) (by rw [hik]; exact hfirst e.w (fun _ => rfl)) (by omega) ty]
        simp [hs0, storeCells]
    · have hne : ys.isEmpty = false := by cases ys; simp at h0; rfl
      rcases hok with ⟨hm0, A, hv0, _⟩ | ⟨hmp, hk0, g, cap, cur, el, fz, hv0, hBg, ⟨hcur, hel, hfz⟩, hcs, hcap, hSg, hβg⟩
      · -- an empty slice without room
        obtain rfl : xs = [] := List.eq_nil_of_length_eq_zero (by omega)
        have hold : (Builtin.firstCells i.size 0 (.slice A 0 0)).run C.P e.w.drew = .ok #[] e.w.drew := by
          cases A with
          | none => rfl
          | some a => simp [Builtin.firstCells, loadCells, loadCellsFrom]
        obtain ⟨c, rest, hc, hrest, hrun⟩ := run_append_new (m := 0) (cap := 0) (base := A) (n := ys.length) hst hxt hdint hi hiz e.w (hlen _) (by omega) hb0 (by simpa using hb) hold (by rw [hik]; exact hfirst _ hdrew) ty
        obtain ⟨e', hw, hr, hsim, ha⟩ := step_row (sim_heap h e.w.drew rfl rfl rfl rfl) t (hp.toks.set t (ys.length, some elem)) ys (#[] ++ src ++ rest) elem (k + 1) c (by omega) (by omega) (by omega)
          (by simp [hsrcl, hrest, hzc]; rw [← Nat.add_mul]; congr 1; omega) (by simp) (.inl ⟨tk, ht⟩) (by rw [List.getElem?_set_self (List.getElem?_eq_some_iff.1 htok).1]) (fun t' tk' _ hne => List.getElem?_set_ne (fun hh => hne hh.symm))
          (fun tk' ht' => by
            obtain rfl : tk = tk' := Option.some.inj (ht.symm.trans ht')
            exact ⟨by omega, by omega⟩) hky hyd (fun i x v hx hv => ((hrd.mono (adv_heap e.w.drew rfl rfl rfl rfl)).frontA (vs := rest) i x v hx (by simpa using hv)))
        refine ⟨e', _, ?_, by simpa using hr, by simpa [hne] using hsim, (adv_heap e.w.drew rfl rfl rfl rfl).trans ha⟩
        rw [hv0, hrun, hw]
        simp
      · obtain rfl : el = elem := by
          rcases hel0 with h1 | h1
          · simp at h1; subst h1; simp at hm; omega
          · rw [helk, hel] at h1; exact Option.some.inj h1
        have hkk : tk.k = k + 1 := by
          cases xs with
          | nil => simp at hm; omega
          | cons x xs => rw [← hkx x (by simp), hkx1 x (by simp)]
        obtain ⟨hdx, A', cap', k', vf', hrow⟩ := hl.list_inv
        by_cases hfit : tk.m + ys.length ≤ cap
        · -- there is room
          have hstore := run_storeCells (P := C.P) g el fz (tk.m * (k + 1)) (by rw [← hkk]; exact hfz) src.toList 0 e.w cur hcur (fun u hu => by
            obtain ⟨j, hj, rfl⟩ := List.getElem_of_mem hu
            have hj' : j < (ys.flatMap AV.cells).length := by rw [← hrd.1]; exact hj
            have hone : ((ys.flatMap AV.cells)[j]'hj').one = true := by
              obtain ⟨y, hy, hyc⟩ := List.mem_flatMap.1 (List.getElem_mem hj')
              exact List.all_eq_true.1 (isData_one y (hyd y hy)) _ hyc
            exact (hrd.2 j _ _ (List.getElem?_eq_getElem hj') (List.getElem?_eq_getElem hj)).one hone) (by rw [hcs, hkk]; simp [hsrcl]; rw [← Nat.add_mul]; exact Nat.mul_le_mul_right _ hfit)
          simp only [Nat.add_zero] at hstore
          obtain ⟨e', hw, hr, hsim, ha⟩ := step_in h t tk ht xs ys (writeV cur (tk.m * (k + 1)) src.toList) g cap hm.symm hmp (by omega) hv0 (by omega) hl hkx (fun y hy => (hky y hy).trans hkk.symm) hyd cur el fz hcur
            (writeV_size _ _ _) (fun j hj => writeV_out _ _ _ _ (.inl (by rw [← hm, ← hkk]; exact hj))) (fun j y v hy hv => by
              have hj : j < src.toList.length := by rw [hrd.1]; exact (List.getElem?_eq_some_iff.1 hy).1
              rw [hm, hkk, writeV_in src.toList cur (tk.m * (k + 1)) j (by rw [hcs, hkk]; simp [hsrcl]; rw [← Nat.add_mul]; exact Nat.mul_le_mul_right _ hfit) _ (List.getElem?_eq_getElem hj)] at hv
              cases hv
              exact hrd.2 j y _ hy (List.getElem?_eq_getElem hj))
          refine ⟨e', _, ?_, hr, by simpa [hne, hel] using hsim, ha⟩
          rw [hv0, run_append_in (m := tk.m) (cap := cap) (n := ys.length) hst hxt hdint hi e.w (hlen _) (by rw [hik]; exact hfirst e.w (fun _ => rfl)) hfit ty]
          simp only [spot_add, Nat.zero_add, hik, hstore, Result.andThen_ok, hw, hm]
        · -- a new row
          obtain ⟨old, hol, hof, hor⟩ := row_cells hrow hkx1 (Nat.succ_pos k) (P := C.P)
          have hold : (Builtin.firstCells i.size tk.m (.slice (some ⟨g, 0, none⟩) tk.m cap)).run C.P e.w.drew = .ok old e.w.drew := by
            rw [← hv0, hik, ← hm]; exact hof _ hdrew
          obtain ⟨c, rest, hc, hrest, hrun⟩ := run_append_new (m := tk.m) (cap := cap) (base := some ⟨g, 0, none⟩) (n := ys.length) hst hxt hdint hi hiz e.w (hlen _) hfit hb0 (by rw [← hm]; exact hb) hold (by rw [hik]; exact hfirst _ hdrew) ty
          have hkxy : ∀ x, x ∈ xs ++ ys → x.cells.length = k + 1 := fun x hx => (List.mem_append.1 hx).elim (hkx1 x) (hky x)
          have hol2 : old.size = xs.length * (k + 1) := by have := hor.1; rw [flat_length xs (k + 1) hkx1] at this; simpa using this
          have hboth : CellsRd e ((xs ++ ys).flatMap AV.cells) (old ++ src).toList := by
            rw [List.flatMap_append, Array.toList_append]; exact hor.append hrd
          obtain ⟨e', hw, hr, hsim, ha⟩ := step_row (sim_heap h e.w.drew rfl rfl rfl rfl) t (hp.toks.set t (xs.length + ys.length, some el)) (xs ++ ys) (old ++ src ++ rest) el (k + 1) c (by simp; omega) (by omega) (by simp; omega)
            (by simp [hsrcl, hrest, hzc, hol2]; rw [← Nat.add_mul, ← Nat.add_mul]; congr 1; omega) (by simp) (.inl ⟨tk, ht⟩) (by rw [List.getElem?_set_self (List.getElem?_eq_some_iff.1 htok).1]; simp) (fun t' tk' _ hne => List.getElem?_set_ne (fun hh => hne hh.symm))
            (fun tk' ht' => by
              obtain rfl : tk = tk' := Option.some.inj (ht.symm.trans ht')
              exact ⟨by simp; omega, fun _ => hkk⟩) hkxy (fun x hx => (List.mem_append.1 hx).elim (hdx x) (hyd x))
            (fun i x v hx hv => ((hboth.mono (adv_heap e.w.drew rfl rfl rfl rfl)).frontA (vs := rest) i x v hx hv))
          refine ⟨e', _, ?_, hr, by simpa [hne] using hsim, (adv_heap e.w.drew rfl rfl rfl rfl).trans ha⟩
          rw [hv0, hrun, hw]
          simp [hm]
  · cases hx

end Go.Proofs.YtkddphdhcejdaaaDoor.AI
