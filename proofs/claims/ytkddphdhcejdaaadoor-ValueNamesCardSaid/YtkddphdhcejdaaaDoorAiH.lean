/-
  Each operation of the interpreter's is the model's: structs and slices that are written out.
-/
import Derived.Test.YtkddphdhcejdaaaDoorAiG
import Derived.Laws.Tables
set_option linter.unusedVariables false
set_option linter.unusedSimpArgs false
namespace Go.Proofs.YtkddphdhcejdaaaDoor.AI
open Go.RowKit
variable {C : Cfg} {B : Nat} {e : E} {hp : Hp}

/-- Cells that read as cells. -/
def CellsRd (e : E) (cs : List AV) (vs : List Value) : Prop := vs.length = cs.length ∧ ∀ (i : Nat) (x : AV) (v : Value), cs[i]? = some x → vs[i]? = some v → Rd e x v

theorem CellsRd.mono {e e' : E} (h : Adv e e') {cs : List AV} {vs : List Value} (hc : CellsRd e cs vs) : CellsRd e' cs vs := ⟨hc.1, fun i x v hx hv => (hc.2 i x v hx hv).mono h⟩

theorem Rd.cellsRd {x : AV} {v : Value} (h : Rd e x v) (hx : x.cells.all (·.one) = true) : CellsRd e x.cells v.cells.toList :=
  let ⟨h1, h2, _⟩ := h.cells hx
  ⟨by simpa using h1, fun i x v hx hv => h2 i x v hx (by simpa using hv)⟩

theorem zipIdx_write (off : Nat) : ∀ (l : List Value) (k : Nat) (cs : Array Value), (l.zipIdx k).foldl (fun cs (x : Value × Nat) => cs.setIfInBounds (off + x.2) x.1) cs = writeV cs (off + k) l
  | [], k, cs => rfl
  | x :: xs, k, cs => by
    simp only [List.zipIdx_cons, List.foldl_cons, writeV]
    rw [zipIdx_write off xs (k + 1)]
    rfl

theorem CellsRd.write {cs xs : List AV} {vs : Array Value} {us : List Value} (h : CellsRd e cs vs.toList) (h' : CellsRd e xs us) (off : Nat) (hfit : off + xs.length ≤ cs.length) :
    CellsRd e (writeAt cs off xs) (writeV vs off us).toList := by
  have hn : vs.size = cs.length := by simpa using h.1
  have hl := h'.1
  refine ⟨by simp [writeV_size, writeAt_length, hn], fun i x v hx hv => ?_⟩
  simp only [Array.getElem?_toList] at hv
  by_cases hin : i < off ∨ off + xs.length ≤ i
  · rw [writeAt_out _ _ _ _ hin] at hx
    rw [writeV_out _ _ _ _ (by omega)] at hv
    exact h.2 i x v hx (by simpa using hv)
  · have hi : i = off + (i - off) := by omega
    rw [hi, writeAt_in _ _ _ _ hfit (by omega)] at hx
    have hlt : i - off < us.length := by omega
    rw [hi, writeV_in _ _ _ _ (by omega) _ (List.getElem?_eq_getElem hlt)] at hv
    cases hv
    exact h'.2 (i - off) x _ hx (List.getElem?_eq_getElem hlt)

/-- The parts of what is written out. -/
def PartsRd (e : E) (ps : List (Nat × AV)) (qs : List (Nat × Value)) : Prop :=
  qs.length = ps.length ∧ ∀ (i : Nat) (p : Nat × AV) (q : Nat × Value), ps[i]? = some p → qs[i]? = some q → p.1 = q.1 ∧ Rd e p.2 q.2

theorem fillA_ok {place : Nat → Option (Nat × Nat)} : ∀ (ps : List (Nat × AV)) (qs : List (Nat × Value)) (cs : List AV) (vs : Array Value) (cs' : List AV), PartsRd e ps qs → CellsRd e cs vs.toList → fillA place cs ps = some cs' →
    ∃ vs', Instr.fill place vs qs = some vs' ∧ CellsRd e cs' vs'.toList ∧ cs'.length = cs.length
  | [], [], cs, vs, cs', hp, hc, hx => by
    simp only [fillA, Option.some.injEq] at hx
    subst hx
    exact ⟨vs, rfl, hc, rfl⟩
  | [], q :: qs, cs, vs, cs', hp, hc, hx => by have := hp.1; simp at this
  | p :: ps, [], cs, vs, cs', hp, hc, hx => by have := hp.1; simp at this
  | (i, x) :: ps, (j, v) :: qs, cs, vs, cs', hp, hc, hx => by
    obtain ⟨h1, h2⟩ := hp.2 0 (i, x) (j, v) rfl rfl
    simp only at h1 h2
    subst h1
    simp only [fillA] at hx
    split at hx
    · cases hx
    rename_i off size hpl
    split at hx
    case isFalse => cases hx
    rename_i hcond
    obtain ⟨hl, hfit, hone⟩ := hcond
    have hcx := h2.cellsRd hone
    have hvs : v.cells.size = size := by have := hcx.1; simp at this; omega
    have hcs : vs.size = cs.length := by simpa using hc.1
    obtain ⟨vs', hf, hr, hlen⟩ := fillA_ok ps qs (writeAt cs off x.cells) (writeV vs off v.cells.toList) cs' ⟨by simpa using hp.1, fun k p q hk hq => hp.2 (k + 1) p q (by simpa using hk) (by simpa using hq)⟩ (hc.write hcx off (by omega)) hx
    refine ⟨vs', ?_, hr, by rw [hlen, writeAt_length]⟩
    simp only [Instr.fill, hpl]
    rw [if_neg (by simp; omega)]
    have hz := zipIdx_write off v.cells.toList 0 vs
    simp only [Nat.add_zero] at hz
    rw [← hf, ← hz]
    congr 1
    rw [← Array.foldl_toList, Array.toList_zipIdx]

theorem ofVal_cells (e : E) (z : Value) : CellsRd e (ofVal z).cells z.cells.toList := by
  have hr := ofVal_rd e z
  cases z with
  | agg cs =>
    cases cs with
    | mk l =>
      refine ⟨by simpa [ofVal, AV.cells, Value.cells] using ofVals_length l, fun i x v hx hv => ?_⟩
      simp only [ofVal, AV.cells] at hx
      simp only [Value.cells] at hv
      exact ofVals_rd e l i x v hx hv
  | pointer a => cases a <;> exact ⟨rfl, fun i x v hx hv => by cases i <;> simp [ofVal, AV.cells, Value.cells] at hx hv; subst hx hv; exact hr⟩
  | slice a l c =>
    have hc : (ofVal (.slice a l c)).cells = [ofVal (.slice a l c)] := by
      cases a with
      | some a => rfl
      | none => cases l with
        | succ l => rfl
        | zero => cases c <;> rfl
    rw [hc]
    exact ⟨rfl, fun i x v hx hv => by cases i <;> simp [Value.cells] at hx hv; subst hx hv; exact hr⟩
  | _ => exact ⟨rfl, fun i x v hx hv => by cases i <;> simp [ofVal, AV.cells, Value.cells] at hx hv; subst hx hv; exact hr⟩

/-- A struct or an array that is written out. -/
theorem buildA_ok {t : TypeId} {ps : List (Nat × AV)} {qs : Array (Nat × Value)} {x : AV} (hp : PartsRd e ps qs.toList) (hx : buildA C t ps = some x) :
    ∃ v, (Instr.build t qs).run C.P e.w = .ok v e.w ∧ Rd e x v := by
  unfold buildA at hx
  split at hx
  · rename_i fields zero hu hz
    split at hx
    case h_2 => cases hx
    rename_i places hpl
    simp only [Option.map_eq_some_iff] at hx
    obtain ⟨cs, hf, rfl⟩ := hx
    simp only [zeroCells, Option.map_eq_some_iff, Option.bind_eq_some_iff] at hz
    obtain ⟨z, ⟨i, hi, hz⟩, rfl⟩ := hz
    obtain ⟨vs', hf', hr, _⟩ := fillA_ok ps qs.toList _ z.cells cs hp (ofVal_cells e z) hf
    refine ⟨.agg vs', run_build e.w t qs vs' ?_, .agg _ _ (by have := hr.1; simpa using this) (fun i x v hx hv => hr.2 i x v hx (by simpa using hv))⟩
    simp only [Program.built, hi, hu, hz, hpl]
    exact hf'
  · rename_i len elem zero hu hz
    split at hx
    case h_2 => cases hx
    rename_i s hs
    simp only [Option.map_eq_some_iff] at hx
    obtain ⟨cs, hf, rfl⟩ := hx
    simp only [zeroCells, Option.map_eq_some_iff, Option.bind_eq_some_iff] at hz
    obtain ⟨z, ⟨i, hi, hz⟩, rfl⟩ := hz
    simp only [sz, Option.map_eq_some_iff] at hs
    obtain ⟨ie, hie, rfl⟩ := hs
    obtain ⟨vs', hf', hr, _⟩ := fillA_ok ps qs.toList _ z.cells cs hp (ofVal_cells e z) hf
    refine ⟨.agg vs', run_build e.w t qs vs' ?_, .agg _ _ (by have := hr.1; simpa using this) (fun i x v hx hv => hr.2 i x v hx (by simpa using hv))⟩
    simp only [Program.built, hi, hu, hz, hie]
    exact hf'
  · cases hx

mutual
theorem toData_data : ∀ (x y : AV), x.toData = some y → y.isData = true ∧ (x.one = true → y.one = true) ∧ y.cells.length = x.cells.length
  | .int k n, y, hy => by cases hy; exact ⟨rfl, fun _ => rfl, rfl⟩
  | .bool b, y, hy => by cases hy; exact ⟨rfl, fun _ => rfl, rfl⟩
  | .str s, y, hy => by cases hy; exact ⟨rfl, fun _ => rfl, rfl⟩
  | .nils, y, hy => by cases hy; exact ⟨rfl, fun _ => rfl, rfl⟩
  | .list xs, y, hy => by cases hy; exact ⟨rfl, fun _ => rfl, rfl⟩
  | .own t xs, y, hy => by cases hy; exact ⟨rfl, fun _ => rfl, rfl⟩
  | .nilp, y, hy => by cases hy; exact ⟨rfl, fun _ => rfl, rfl⟩
  | .nilf, y, hy => by cases hy; exact ⟨rfl, fun _ => rfl, rfl⟩
  | .nili, y, hy => by cases hy; exact ⟨rfl, fun _ => rfl, rfl⟩
  | .agg cs, y, hy => by
    simp only [AV.toData, Option.map_eq_some_iff] at hy
    obtain ⟨ys, hys, rfl⟩ := hy
    obtain ⟨h1, h2⟩ := toCells_data cs ys hys
    exact ⟨h2, fun h => by simp [AV.one] at h, h1⟩
  | .lits _, y, hy => by cases hy
  | .tup _, y, hy => by cases hy
  | .box .., y, hy => by cases hy
  | .elem _, y, hy => by cases hy
  | .fn .., y, hy => by cases hy
  | .yield _, y, hy => by cases hy
  | .errv, y, hy => by cases hy
  | .undef, y, hy => by cases hy
theorem toCells_data : ∀ (xs ys : List AV), AV.toCells xs = some ys → ys.length = xs.length ∧ AV.allCells ys = true
  | [], ys, h => by cases h; exact ⟨rfl, rfl⟩
  | x :: xs, ys, h => by
    simp only [AV.toCells] at h
    split at h
    case h_2 => cases h
    rename_i y ys' ho hy hys
    cases h
    obtain ⟨h1, h2⟩ := toCells_data xs ys' hys
    obtain ⟨h3, h4, _⟩ := toData_data x y hy
    exact ⟨by simp [h1], by simp [AV.allCells, h2, h3, h4 ho]⟩
end

theorem toDatas_data : ∀ (xs ys : List AV), AV.toDatas xs = some ys → ys.length = xs.length ∧ (∀ y, y ∈ ys → y.isData = true)
  | [], ys, h => by cases h; exact ⟨rfl, by simp⟩
  | x :: xs, ys, h => by
    simp only [AV.toDatas] at h
    split at h
    case h_2 => cases h
    rename_i y ys' hy hys
    cases h
    obtain ⟨h1, h2⟩ := toDatas_data xs ys' hys
    exact ⟨by simp [h1], fun u hu => by
      simp only [List.mem_cons] at hu
      rcases hu with rfl | hu
      · exact (toData_data x u hy).1
      · exact h2 u hu⟩

mutual
/-- What is data reads as what it was taken from. -/
theorem toData_ok : ∀ (x y : AV) {v : Value}, Rd e x v → x.toData = some y → Rd e y v
  | .int k n, y, v, h, hy => by cases hy; exact h
  | .bool b, y, v, h, hy => by cases hy; exact h
  | .str s, y, v, h, hy => by cases hy; exact h
  | .nils, y, v, h, hy => by
    cases hy; cases h
    exact .list [] none 0 0 (fun _ _ => undef) (by simp) (by simp) (by simp) (by simp) (by simp) (by simp)
  | .list xs, y, v, h, hy => by cases hy; exact h
  | .own t xs, y, v, h, hy => by
    cases hy
    cases h with
    | own _ _ _ tk hl => exact hl
  | .nilp, y, v, h, hy => by cases hy; exact h
  | .nilf, y, v, h, hy => by cases hy; exact h
  | .nili, y, v, h, hy => by cases hy; exact h
  | .agg cs, y, v, h, hy => by
    simp only [AV.toData, Option.map_eq_some_iff] at hy
    obtain ⟨ys, hys, rfl⟩ := hy
    cases h with
    | agg _ vs hn hr =>
      have h1 := (toCells_data cs ys hys).1
      exact .agg _ _ (by rw [hn, h1]) (fun i y v hy hv => by
        have hi : i < cs.length := by rw [← h1]; exact (List.getElem?_eq_some_iff.1 hy).1
        exact toCells_ok cs ys hys i _ y v (List.getElem?_eq_getElem hi) hy (hr i _ v (List.getElem?_eq_getElem hi) hv))
  | .lits _, y, v, h, hy => by cases hy
  | .tup _, y, v, h, hy => by cases hy
  | .box .., y, v, h, hy => by cases hy
  | .elem _, y, v, h, hy => by cases hy
  | .fn .., y, v, h, hy => by cases hy
  | .yield _, y, v, h, hy => by cases hy
  | .errv, y, v, h, hy => by cases hy
  | .undef, y, v, h, hy => by cases hy
theorem toCells_ok : ∀ (xs ys : List AV), AV.toCells xs = some ys → ∀ (i : Nat) (x y : AV) (v : Value), xs[i]? = some x → ys[i]? = some y → Rd e x v → Rd e y v
  | [], ys, h => by cases h; exact fun i x y v hx => by simp at hx
  | x :: xs, ys, h => by
    simp only [AV.toCells] at h
    split at h
    case h_2 => cases h
    rename_i y ys' ho hy hys
    cases h
    intro i a b v ha hb hr
    cases i with
    | zero => simp at ha hb; subst ha hb; exact toData_ok x y hr hy
    | succ i => exact toCells_ok xs ys' hys i a b v (by simpa using ha) (by simpa using hb) hr
end
theorem toDatas_ok : ∀ (xs ys : List AV), AV.toDatas xs = some ys → ∀ (i : Nat) (x y : AV) (v : Value), xs[i]? = some x → ys[i]? = some y → Rd e x v → Rd e y v
  | [], ys, h => by cases h; exact fun i x y v hx => by simp at hx
  | x :: xs, ys, h => by
    simp only [AV.toDatas] at h
    split at h
    case h_2 => cases h
    rename_i y ys' hy hys
    cases h
    intro i a b v ha hb hr
    cases i with
    | zero => simp at ha hb; subst ha hb; exact toData_ok x y hr hy
    | succ i => exact toDatas_ok xs ys' hys i a b v (by simpa using ha) (by simpa using hb) hr

theorem allCells_one : ∀ (cs : List AV), AV.allCells cs = true → cs.all (·.one) = true
  | [], h => rfl
  | x :: xs, h => by
    simp only [AV.allCells, Bool.and_eq_true] at h
    simp only [List.all_cons, h.1.1, allCells_one xs h.2, Bool.and_self]
theorem isData_one (x : AV) (h : x.isData = true) : x.cells.all (·.one) = true := by
  cases x <;> first | exact allCells_one _ h | rfl | (simp [AV.isData] at h)

end Go.Proofs.YtkddphdhcejdaaaDoor.AI
